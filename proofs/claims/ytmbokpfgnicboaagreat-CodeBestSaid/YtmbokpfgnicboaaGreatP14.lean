import Derived.Test.YtmbokpfgnicboaaGreatPo
import Derived.Test.YtmbokpfgnicboaaGreatPlain
set_option linter.unusedVariables false
set_option linter.unusedSimpArgs false
/- The walks of package code: Complete. -/
namespace Go.Proofs.YtmbokpfgnicboaaGreat
open Go.RowKit Go.Hd _root_.Hd
set_option exponentiation.threshold 2000

/-- A set of whole numbers as a map to true. -/
noncomputable def setF (S : Int → Prop) (x : Int) : Option Value := if tt (S x) then some (.bool true) else none
noncomputable def coP (U Bk : Int) (n : Nat) (f : Nat → Nat) (m : Nat) (g : Nat → Nat) : Bool := tt (VSt U Bk n f m g ∧ ¬ May Bk.toNat (val f n) (val g m) (U - 2).toNat Bk.toNat)

/-- The weights of the block j, as a set. -/
def St (d m n j : Nat) (y : Int) : Prop := 0 ≤ y ∧ May d m n j y.toNat
/-- The next block's, as far as the weights no longer to come tell. -/
def NX (d m n j : Nat) (left : Int → Bool) (y : Int) : Prop := 0 ≤ y ∧ y.toNat ≤ d ∧ ∃ v : Nat, v ≤ d ∧ May d m n j v ∧ left (v : Int) = false ∧ thr d m n (v + y.toNat) < (v : Int)
/-- And the weight v under way, up to i. -/
def NY (d m n j : Nat) (left : Int → Bool) (v i : Nat) (y : Int) : Prop := NX d m n j left y ∨ (0 ≤ y ∧ y.toNat < i ∧ thr d m n (v + y.toNat) < (v : Int))
theorem setF_congr {S S' : Int → Prop} (h : ∀ x, S x ↔ S' x) (x : Int) : setF S x = setF S' x := by
  unfold setF
  rw [show S x = S' x from propext (h x)]
theorem setF_some {S : Int → Prop} {x : Int} {c : Value} (h : setF S x = some c) : S x ∧ c = .bool true := by
  unfold setF at h
  split at h
  · rename_i h1
    cases h
    exact ⟨tt_iff.1 h1, rfl⟩
  · cases h
theorem setF_none {S : Int → Prop} {x : Int} (h : (setF S x).isSome = false) : ¬ S x := fun hs => by
  unfold setF at h
  rw [tt_pos hs, if_pos rfl] at h
  cases h
theorem setF_put {S S' : Int → Prop} {y : Int} (h : ∀ x, S' x ↔ S x ∨ x = y) (x : Int) : (if x = y then some (.bool true) else setF S x) = setF S' x := by
  unfold setF
  by_cases e : x = y
  · rw [if_pos e, tt_pos ((h x).2 (Or.inr e)), if_pos rfl]
  · rw [if_neg e, show S x = S' x from propext ⟨fun hs => (h x).2 (Or.inl hs), fun hs => ((h x).1 hs).resolve_right e⟩]
theorem NX_start {d m n j : Nat} {left : Int → Bool} (hl : ∀ x, left x = (setF (St d m n j) x).isSome) (y : Int) : ¬ NX d m n j left y := by
  rintro ⟨_, _, v, _, hm, hf, _⟩
  rw [hl] at hf
  exact setF_none hf ⟨by omega, by rw [Int.toNat_natCast]; exact hm⟩
theorem NX_end {d m n j : Nat} {left : Int → Bool} (hl : ∀ v : Nat, v ≤ d → left (v : Int) = false) (y : Int) : NX d m n j left y ↔ St d m n (j + 1) y :=
  ⟨fun ⟨h1, h2, v, h3, h4, _, h5⟩ => ⟨h1, h2, v, h3, h4, h5⟩, fun ⟨h1, h2, v, h3, h4, h5⟩ => ⟨h1, h2, v, h3, h4, hl v h3, h5⟩⟩
theorem NY_zero {d m n j v : Nat} {left : Int → Bool} (y : Int) : NY d m n j left v 0 y ↔ NX d m n j left y :=
  ⟨fun h => h.resolve_right (fun h => absurd h.2.1 (by omega)), Or.inl⟩
theorem NY_end {d m n j v : Nat} {left : Int → Bool} (hv : v ≤ d) (hm : May d m n j v) (y : Int) : NY d m n j left v (d + 1) y ↔ NX d m n j (fun z => left z && decide (z ≠ (v : Int))) y := by
  constructor
  · rintro (⟨h1, h2, u, h3, h4, h5, h6⟩ | ⟨h1, h2, h3⟩)
    · exact ⟨h1, h2, u, h3, h4, by dsimp only; rw [h5]; rfl, h6⟩
    · exact ⟨h1, by omega, v, hv, hm, by simp, h3⟩
  · rintro ⟨h1, h2, u, h3, h4, h5, h6⟩
    by_cases e : u = v
    · subst e
      exact Or.inr ⟨h1, by omega, h6⟩
    · refine Or.inl ⟨h1, h2, u, h3, h4, ?_, h6⟩
      have e2 : decide ((u : Int) ≠ (v : Int)) = true := decide_eq_true (by omega)
      dsimp only at h5
      rw [e2, Bool.and_true] at h5
      exact h5
theorem NY_hit {d m n j v i : Nat} {left : Int → Bool} (h : thr d m n (v + i) < (v : Int)) (y : Int) : NY d m n j left v (i + 1) y ↔ NY d m n j left v i y ∨ y = (i : Int) := by
  constructor
  · rintro (h1 | ⟨h1, h2, h3⟩)
    · exact Or.inl (Or.inl h1)
    · by_cases e : y = (i : Int)
      · exact Or.inr e
      · exact Or.inl (Or.inr ⟨h1, by omega, h3⟩)
  · rintro ((h1 | ⟨h1, h2, h3⟩) | rfl)
    · exact Or.inl h1
    · exact Or.inr ⟨h1, by omega, h3⟩
    · exact Or.inr ⟨by omega, by omega, by rw [Int.toNat_natCast]; exact h⟩
theorem NY_miss {d m n j v i : Nat} {left : Int → Bool} (h : ¬ thr d m n (v + i) < (v : Int)) (y : Int) : NY d m n j left v i y ↔ NY d m n j left v (i + 1) y := by
  constructor
  · rintro (h1 | ⟨h1, h2, h3⟩)
    · exact Or.inl h1
    · exact Or.inr ⟨h1, by omega, h3⟩
  · rintro (h1 | ⟨h1, h2, h3⟩)
    · exact Or.inl h1
    · refine Or.inr ⟨h1, ?_, h3⟩
      by_cases e : y.toNat = i
      · rw [e] at h3; exact absurd h3 h
      · omega
theorem St_zero {d m n : Nat} (x : Int) : St d m n 0 x ↔ False ∨ x = 0 :=
  ⟨fun ⟨h1, h2⟩ => Or.inr (by have : x.toNat = 0 := h2; omega), fun h => h.elim False.elim (fun h => ⟨by omega, by subst h; rfl⟩)⟩
theorem tt_flip (p : Prop) : (!tt p) = tt (¬ p) := by
  by_cases h : p
  · rw [tt_pos h, tt_neg (fun h2 => h2 h)]; rfl
  · rw [tt_neg h, tt_pos h]; rfl
theorem setF_getD (S : Int → Prop) (x : Int) : (setF S x).getD (.bool false) = .bool (tt (S x)) := by
  unfold setF
  by_cases h : S x
  · rw [tt_pos h]; rfl
  · rw [tt_neg h]; rfl
theorem setF_never {S : Int → Prop} (h : ∀ x, ¬ S x) (x : Int) : setF S x = none := by
  unfold setF
  rw [tt_neg (h x)]; rfl
theorem setF_false (x : Int) : setF (fun _ => False) x = none := by
  unfold setF
  rw [tt_neg id]; rfl
theorem St_first {w : World} {P : Program} {k : TypeId} {b : Nat} (d m n : Nat) (h : MapIs w P k b (0 + 1) (fun y => if y = 0 then some (.bool true) else (fun _ => none) y)) : MapIs w P k b 1 (setF (St d m n 0)) :=
  h.congr fun x => by
    rw [← setF_put (S := fun _ => False) St_zero x, setF_false]
theorem zeros_eq : Tryz.zeroCells150 = Array.replicate 129 (.int .i64 ((0 : Nat) : Int)) := by kernel_rfl
theorem zeros_row (w : World) : (w.alloc (.cells Tryz.zeroCells150 150)).rowIs w.heap.size 150 129 (fun _ => .int .i64 ((0 : Nat) : Int)) := by
  rw [zeros_eq]
  have h := World.rowIs_alloc w (Array.replicate 129 (.int .i64 ((0 : Nat) : Int))) 150 (fun _ => .int .i64 ((0 : Nat) : Int)) (fun i hi => by simp only [Array.size_replicate] at hi; simp [hi])
  rw [Array.size_replicate] at h
  exact h

set_option maxRecDepth 100000 in
set_option maxHeartbeats 4000000 in
theorem complete_good (U d n m : Nat) (K : Nat → Nat) (f g : Nat → Nat) (v u : Value) (w : World) (hv : Rd w .u32 v n f) (hu : Rd w .u32 u m g) (hf : ∀ j, j < n → f j < B) (hg : ∀ j, j < m → g j < B) (hs : VSt (U : Int) (d : Int) n f m g) :
    Calls Tryz.prog 46 #[stV (U : Int) (d : Int) K v u] w fun e w' => e = .returned (.tuple #[.bool (tt (¬ May d (val f n) (val g m) (U - 2) d)), .int .i64 0]) ∧ Below w.heap.size w w' := by
  have hal := (Below.refl _ w).alloc (Nat.le_refl _) (.cells #[.int .i64 (U : Int), .int .i64 (d : Int), .int .u8 (K 0), .int .u8 (K 1), .int .u8 (K 2), .int .u8 (K 3), .int .u8 (K 4), .int .u8 (K 5), .int .u8 (K 6), .int .u8 (K 7), .int .u8 (K 8), .int .u8 (K 9), .int .u8 (K 10), .int .u8 (K 11), .int .u8 (K 12), .int .u8 (K 13), .int .u8 (K 14), .int .u8 (K 15), v, u] 29)
  have HCk := Lib.hid (checkSteps_any (U : Int) (d : Int) K n m f g v u _ (hv.below hal) (hu.below hal) hf hg)
  rw [spE_yes hs] at HCk
  have HA := Lib.hid hal
  have HS := Lib.hid (st_row w (U : Int) (d : Int) K v u 29)
  obtain ⟨d', hdd, hd1, hd, cf, cg, lf, lg, hlt⟩ := vst_facts hs hf hg
  obtain rfl : d' = d := by omega
  have hU2 : 2 ≤ U := by have := hs.1; omega
  have hU16 : U ≤ 16 := by have := hs.2.1; omega
  have HTh := Lib.hid (fun (q : Nat) (hq : q ≤ 2 * d') W (h : Below w.heap.size w W) => threshold_any (U : Int) d' q (val f n) (val g m) K v u W (Nt.below ⟨n, f, hv, cf, rfl⟩ h) (Nt.below ⟨m, g, hu, cg, rfl⟩ h) hd hq lf lg)
  obtain ⟨A, n', c, rfl⟩ : ∃ A n c, v = .slice A n c := by obtain ⟨A, c, h, _⟩ := hv; exact ⟨_, _, _, h⟩
  obtain ⟨A2, m', c2, rfl⟩ : ∃ A n c, u = .slice A n c := by obtain ⟨A, c, h, _⟩ := hu; exact ⟨_, _, _, h⟩
  clear hv hu hf hg hal hs cf cg lf lg hlt hdd
  generalize val f n = vf at *
  generalize val g m = vg at *
  go_enter Tryz.func46, Tryz.ntmps46
  go_wp2_with (refine wp_load_whole rfl 29 _ rfl w.heap.size rfl 29 20 _ _ _ HS.out rfl (st_cs _ _ _ _ _) Tryz.underlying29 rfl st_size ?_)
  refine HCk.out.mono ?_
  rintro e w1 ⟨rfl, hB1⟩
  have HB1 := Lib.hid (below_then HA.out hB1)
  have HS1 := Lib.hid (HS.out.of_block (hB1.block _ HS.out.lt))
  have hsz1 : w.heap.size < w1.heap.size := HS1.out.lt
  have k1 : w1.cell? ⟨w.heap.size, 1, none⟩ = some (.int .i64 d') := HS1.out.cell (i := 1) (by omega)
  clear hB1
  go_wp2_with fail
  go_loopw [20] (fun s20 wr => ∃ (x : Nat), x ≤ 2 * d' + 1 ∧ s20 = .int .i64 x ∧ Hid (∃ F : Nat → Int, wr.rowIs w1.heap.size 150 129 (fun i => .int .i64 (F i)) ∧ ∀ j, j < x → F j = thr d' vf vg j) ∧ Below w1.heap.size w1 wr) (fun s20 _ => 2 * d' + 1 - (intOf s20).toNat)
  case atStart => exact ⟨0, Nat.zero_le _, rfl, ⟨fun _ => 0, zeros_row w1, fun j hj => by omega⟩, (Below.refl _ _).alloc (Nat.le_refl _) _⟩
  case round =>
    obtain ⟨x, hx, rfl, hrow, hbel⟩ := hrel
    by_cases hlt : x ≤ 2 * d'
    · have HW := Lib.hid (HTh.out x hlt wr (below_then HB1.out hbel))
      have HSr := Lib.hid (HS1.out.of_block (hbel.block _ hsz1))
      have hbx : w1.heap.size < wr.heap.size := hrow.out.elim fun F h => h.1.lt
      have hk1 := cell_below hbel k1
      have HBel := Lib.hid hbel
      clear hbel k1
      go_wp2_with (refine wp_load_whole rfl 29 _ rfl w.heap.size rfl 29 20 _ _ _ HSr.out rfl (st_cs _ _ _ _ _) Tryz.underlying29 rfl st_size ?_)
      refine HW.out.mono ?_
      rintro e w2 ⟨rfl, hB2⟩
      have hrow2 : Hid (∃ F : Nat → Int, (w2.rowIs w1.heap.size 150 129 (fun i => .int .i64 (F i)) ∧ ∀ j, j < x → F j = thr d' vf vg j)) := by
        obtain ⟨F, h1, h2⟩ := hrow.out
        exact ⟨F, h1.of_block (hB2.block _ h1.lt), h2⟩
      have HB2 := Lib.hid hB2
      obtain ⟨c0, q0⟩ : ∃ c0, w2.cell? ⟨w1.heap.size, x, none⟩ = some c0 := by
        obtain ⟨F, h1, h2⟩ := hrow2.out
        exact ⟨_, h1.cell (by omega)⟩
      have q1 : w2.frozen? ⟨w1.heap.size, x, none⟩ = false := by
        obtain ⟨F, h1, h2⟩ := hrow2.out
        exact h1.frozen x
      clear hB2
      go_wp2
      go_roundw
      case rel =>
        refine ⟨x + 1, by omega, by go_num, ?_, (HBel.out.trans (HB2.out.mono (Nat.le_of_lt hbx))).setCell (Nat.le_refl _) _⟩
        obtain ⟨F, h1, h2⟩ := hrow2.out
        refine ⟨fun i => if i = x then thr d' vf vg x else F i, (h1.set x _).congr fun j hj => ?_, fun j hj => ?_⟩
        · dsimp only
          split <;> rfl
        · by_cases e : j = x
          · subst e
            exact if_pos rfl
          · refine (if_neg e).trans ?_
            exact h2 j (by omega)
      case measure => simp [intOf]; omega
    · obtain rfl : x = 2 * d' + 1 := by omega
      have HSr := Lib.hid (HS1.out.of_block (hbel.block _ hsz1))
      obtain ⟨F, hF, hFt⟩ := hrow.out
      have hFl := hF.lt
      have hk1 := cell_below hbel k1
      have hk0 : wr.cell? ⟨w.heap.size, 0, none⟩ = some (.int .i64 U) := HSr.out.cell (i := 0) (by omega)
      have HBel := Lib.hid (below_then HB1.out hbel)
      have HF := Lib.hid hF
      have HFt := Lib.hid hFt
      clear hbel k1 hF hFt hrow HCk HTh HS HS1
      have hmm := @run_makeMap Tryz.prog
      go_wp2_with (refine wpList_update_mi rfl _ _ _ 152 (Or.inr rfl) 3 4 Tryz.underlying3 Tryz.underlying152 wr.heap.size 0 _ rfl (mapIs_made _ _ _) (by decide) 0 rfl (wf_of (by decide) (by decide)) (.bool true) rfl ?_; intro w3 hM3 hg3; have hB3 : Below wr.heap.size wr w3 := ((Below.refl _ wr).alloc (Nat.le_refl _) _).grown hg3 (by simp) (fun j hj => by cases hj; exact Nat.le_refl _); have k0 := cell_below hB3 hk0; have k1 := cell_below hB3 hk1; have HM3 := Lib.hid (St_first d' vf vg hM3); clear hM3)
      obtain ⟨sz, hsz⟩ : ∃ sz, sz = wr.heap.size := ⟨_, rfl⟩
      have HB3 := Lib.hid (below_then HBel.out hB3)
      have HF3 := Lib.hid (HF.out.of_block (hB3.block _ hFl))
      have hs3 : sz < w3.heap.size := by rw [hsz]; exact HM3.out.lt
      clear hB3 hk0 hk1 HF HSr
      have HSz : w.heap.size < sz ∧ w1.heap.size < sz := by rw [hsz]; omega
      rw [← hsz] at HM3 ⊢
      clear hsz
      go_loopw [7, 34] (fun s7 s34 wr => ∃ (j b : Nat), j ≤ U - 2 ∧ s34 = .int .i64 j ∧ s7 = .map (some b) ∧ sz ≤ b ∧ Hid (MapIs wr Tryz.prog 3 b ((d' + 1) * (d' + 1)) (setF (St d' vf vg j))) ∧ Below sz w3 wr) (fun _ s34 _ => U - 2 - (intOf s34).toNat)
      case atStart => exact ⟨0, sz, Nat.zero_le _, rfl, rfl, Nat.le_refl _, HM3.out.mono (Nat.mul_pos (by omega) (by omega)), Below.refl _ _⟩
      case round =>
        obtain ⟨j, b, hj, rfl, rfl, hb, hmap, hbel⟩ := hrel
        obtain ⟨W0, rfl⟩ : ∃ W0 : World, W0 = wr := ⟨_, rfl⟩
        have HW := Lib.hid hbel
        have hbw := hmap.out.lt
        have hszw : w3.heap.size ≤ W0.heap.size := hbel.size
        have hszw2 : sz ≤ W0.heap.size := by omega
        have p1 : W0.cell? ⟨w.heap.size, 1, none⟩ = some (.int .i64 d') := (hbel.cell HSz.1).trans k1
        clear hbel
        by_cases hjU : j < U - 2
        · have hsz2 : (W0.alloc (.map #[] 0)).heap.size = W0.heap.size + 1 := by simp
          go_wp2_with (first
            | (at_range; refine wpList_range_mi rfl _ 152 rfl 3 4 Tryz.underlying3 Tryz.underlying152 (.bool false) (Tryz.zeroValue4 _) b _ _ rfl (hmap.out.below ((Below.refl _ _).alloc (Nat.le_refl _) _)) ?_; intro w4 cnt hrg hg4 hs4)
            | go_in)
          go_frame
          rw [hsz2] at hrg hs4 ⊢
          rw [show decide ((j : Int) < (U : Int) - 2) = true from decide_eq_true (by omega)]
          have hMn := Lib.hid ((mapIs_made W0 Tryz.prog 3).kept hg4 (by simp))
          have hB4 := Lib.hid ((HW.out.alloc hszw2 (.map #[] 0)).grown hg4 (by rw [hsz2]; omega) (fun j hj => by cases hj))
          clear hg4
          go_loopw [9] (fun _ wr5 => ∃ (left : Int → Bool) (cnt N : Nat), MapRng wr5 Tryz.prog 3 b (W0.heap.size + 1) ((d' + 1) * (d' + 1)) (setF (St d' vf vg j)) left cnt ∧ Hid (MapIs wr5 Tryz.prog 3 W0.heap.size N (setF (NX d' vf vg j left))) ∧ N + cntL left d' * (d' + 1) ≤ (d' + 1) * (d' + 1) ∧ Below sz w3 wr5)
            (fun _ wr5 => wr5.rangeLeft b (W0.heap.size + 1))
          case atStart => exact ⟨_, cnt, 0, hrg, hMn.out.congr (fun x => (setF_never (NX_start (fun _ => rfl)) x).symm), by rw [Nat.zero_add]; exact Nat.mul_le_mul_right _ (cntL_le _ _), hB4.out⟩
          case round =>
            obtain ⟨left, cnt5, N, hrg5, hm5, hN, hbel5⟩ := hrel
            obtain ⟨W5, rfl⟩ : ∃ W5 : World, W5 = wr := ⟨_, rfl⟩
            have HBel5 := Lib.hid hbel5
            clear hbel5
            go_wp2_with (first
              | (at_next; refine wpList_next_mi rfl _ rfl 3 Tryz.underlying3 b (W0.heap.size + 1) _ _ _ _ rfl hrg5 ?_ ?_)
              | go_in)
            · intro hdone
              go_wp2
              go_roundw
              case rel => exact ⟨j + 1, W0.heap.size, by omega, by go_num, rfl, hszw2, (hm5.out.congr (fun x => setF_congr (NX_end (fun v hv => hdone v (wf_of (by omega) (by omega)))) x)).mono (by omega), HBel5.out⟩
              case measure => simp [intOf]; omega
            · intro x c6 w6 cnt6 hwx hlx hFx hrg6 hlt6 hg6 hs6 hen
              obtain ⟨⟨hx0, hmx⟩, rfl⟩ := setF_some hFx
              obtain ⟨q, rfl⟩ := Int.eq_ofNat_of_zero_le hx0
              obtain ⟨L6, hL6'⟩ : ∃ L : Int → Bool, L = fun z => left z && !decide (z = (q : Int)) := ⟨_, rfl⟩
              rw [← hL6'] at hrg6
              have hL6 : L6 = fun z => left z && decide (z ≠ (q : Int)) := by rw [hL6']; funext z; simp
              clear hL6'
              rw [Int.toNat_natCast] at hmx
              have hq := hmx.le
              have hB6 := HBel5.out.grown hg6 (by have := HBel5.out.size; omega) (fun j hj => by cases hj; omega)
              have p1 := (hB6.cell HSz.1).trans k1
              have hm6 := Lib.hid (hm5.out.kept hg6 (by simp))
              have hC : N + (d' + 1) + cntL L6 d' * (d' + 1) ≤ (d' + 1) * (d' + 1) := by
                rw [hL6]
                rw [← cntL_lose left d' q hq hlx, Nat.add_mul] at hN
                omega
              have hN2 : N + (d' + 1) < 5000 := by
                have : (d' + 1) * (d' + 1) ≤ 65 * 65 := Nat.mul_le_mul (by omega) (by omega)
                omega
              have hrl := hrg5.left_eq
              have HB6 := Lib.hid hB6
              have HR6 := Lib.hid hrg6
              have HNe := Lib.hid (fun y => by rw [hL6]; exact NY_end (left := left) hq hmx y : ∀ y, NY d' vf vg j left q (d' + 1) y ↔ NX d' vf vg j L6 y)
              clear hL6 hB6 hrg6 hg6 hm5 hrg5 hlx hFx hx0 hwx HBel5 hMn hB4
              go_wp2_with fail
              go_loopw [46] (fun s46 wr7 => ∃ (i : Nat), i ≤ d' + 1 ∧ s46 = .int .i64 i ∧ Hid (MapRng wr7 Tryz.prog 3 b (W0.heap.size + 1) ((d' + 1) * (d' + 1)) (setF (St d' vf vg j)) L6 cnt6) ∧ Hid (MapIs wr7 Tryz.prog 3 W0.heap.size (N + i) (setF (NY d' vf vg j left q i))) ∧ Below sz w3 wr7) (fun s46 _ => d' + 1 - (intOf s46).toNat)
              case atStart => exact ⟨0, Nat.zero_le _, rfl, HR6.out, hm6.out.congr (fun x => setF_congr (fun y => (NY_zero y).symm) x), HB6.out⟩
              case round =>
                obtain ⟨i, hi, rfl, hrg7, hm7, hbel7⟩ := hrel
                have HBel7 := Lib.hid hbel7
                clear hbel7
                by_cases hlt : i ≤ d'
                · have p7 : wr.cell? ⟨w1.heap.size, q + i, none⟩ = some (.int .i64 (F (q + i))) := (HBel7.out.cell HSz.2).trans (HF3.out.cell (by omega))
                  rw [HFt.out (q + i) (by omega)] at p7
                  have hqi : ((q : Int) + (i : Int)).toNat = q + i := by omega
                  by_cases ht : thr d' vf vg (q + i) < (q : Int)
                  · go_wp2_with (first
                      | (at_mapUpdate; refine wpList_update_mi rfl _ _ _ 152 (Or.inl rfl) 3 4 Tryz.underlying3 Tryz.underlying152 W0.heap.size (N + i) _ rfl hm7.out (by unfold maxLen; omega) (i : Int) rfl (wf_of (by omega) (by omega)) (.bool true) rfl ?_; intro w8 hm8 hg8; go_frame)
                      | go_in)
                    go_roundw
                    case rel => exact ⟨i + 1, by omega, by go_num, hrg7.out.kept hg8 (by simp; omega) (by simp), hm8.congr (fun x => setF_put (NY_hit ht) x), HBel7.out.grown hg8 (by have := HBel7.out.size; omega) (fun j hj => by cases hj; exact hszw2)⟩
                    case measure => simp [intOf]; omega
                  · go_wp2
                    go_roundw
                    case rel => exact ⟨i + 1, by omega, by go_num, hrg7.out, (hm7.out.congr (fun x => setF_congr (NY_miss ht) x)).mono (by omega), HBel7.out⟩
                    case measure => simp [intOf]; omega
                · obtain rfl : i = d' + 1 := by omega
                  go_wp2
                  go_roundw
                  case rel =>
                    exact ⟨L6, cnt6, N + (d' + 1), hrg7.out, hm7.out.congr (fun x => setF_congr HNe.out x), hC, HBel7.out⟩
                  case measure => rw [hrg7.out.left_eq, hrl]; exact hlt6
        · obtain rfl : j = U - 2 := by omega
          go_wp2_with (first
            | (at_lookup; refine wpList_lookup_mi rfl _ _ 152 rfl 3 4 Tryz.underlying3 Tryz.underlying152 (.bool false) (Tryz.zeroValue4 _) b _ _ rfl hmap.out (d' : Int) rfl (wf_of (by omega) (by omega)) ?_; rw [setF_getD])
            | go_in)
          go_ret2
          refine ⟨?_, HB3.out.trans (HW.out.mono (by omega))⟩
          have e1 : St d' vf vg (U - 2) (d' : Int) = May d' vf vg (U - 2) d' := propext ⟨fun h => h.2, fun h => ⟨by omega, h⟩⟩
          rw [e1, tt_flip]
          rfl

set_option maxRecDepth 100000 in
set_option maxHeartbeats 1000000 in
/-- Complete, whatever the code of steps. -/
theorem complete_any (U Bk : Int) (K : Nat → Nat) (n m : Nat) (f g : Nat → Nat) (v u : Value) (w : World) (hv : Rd w .u32 v n f) (hu : Rd w .u32 u m g) (hf : ∀ j, j < n → f j < B) (hg : ∀ j, j < m → g j < B) :
    Calls Tryz.prog 46 #[stV U Bk K v u] w fun e w' => e = .returned (.tuple #[.bool (coP U Bk n f m g), .int .i64 (spE U Bk n f m g)]) ∧ Below w.heap.size w w' := by
  by_cases hs : VSt U Bk n f m g
  · obtain ⟨d, rfl, _⟩ := vst_facts hs hf hg
    obtain ⟨U', rfl⟩ := Int.eq_ofNat_of_zero_le (show 0 ≤ U by have := hs.1; omega)
    refine (complete_good U' d n m K f g v u w hv hu hf hg hs).mono ?_
    rintro e w' ⟨rfl, hb⟩
    refine ⟨?_, hb⟩
    rw [spE_yes hs]
    unfold coP
    rw [tt_congr (show (VSt (U' : Int) (d : Int) n f m g ∧ ¬ May (d : Int).toNat (val f n) (val g m) ((U' : Int) - 2).toNat (d : Int).toNat) ↔ ¬ May d (val f n) (val g m) (U' - 2) d from ?_)]
    rw [Int.toNat_natCast, show ((U' : Int) - 2).toNat = U' - 2 by omega]
    exact ⟨fun h => h.2, fun h => ⟨hs, h⟩⟩
  · have hal := (Below.refl _ w).alloc (Nat.le_refl _) (.cells #[.int .i64 U, .int .i64 Bk, .int .u8 (K 0), .int .u8 (K 1), .int .u8 (K 2), .int .u8 (K 3), .int .u8 (K 4), .int .u8 (K 5), .int .u8 (K 6), .int .u8 (K 7), .int .u8 (K 8), .int .u8 (K 9), .int .u8 (K 10), .int .u8 (K 11), .int .u8 (K 12), .int .u8 (K 13), .int .u8 (K 14), .int .u8 (K 15), v, u] 29)
    have HCk := Lib.hid (checkSteps_any U Bk K n m f g v u _ (hv.below hal) (hu.below hal) hf hg)
    have HA := Lib.hid hal
    have HS := Lib.hid (st_row w U Bk K v u 29)
    have hE : Hid (spE U Bk n f m g = 70) := spE_no hs
    have hP : Hid (coP U Bk n f m g = false) := tt_neg (fun h => hs h.1)
    obtain ⟨A, n', c, rfl⟩ : ∃ A n c, v = .slice A n c := by obtain ⟨A, c, h, _⟩ := hv; exact ⟨_, _, _, h⟩
    obtain ⟨A2, m', c2, rfl⟩ : ∃ A n c, u = .slice A n c := by obtain ⟨A, c, h, _⟩ := hu; exact ⟨_, _, _, h⟩
    rw [hE.out] at HCk
    clear hv hu hf hg hal hs
    go_enter Tryz.func46, Tryz.ntmps46
    go_wp2_with (refine wp_load_whole rfl 29 _ rfl w.heap.size rfl 29 20 _ _ _ HS.out rfl (st_cs _ _ _ _ _) Tryz.underlying29 rfl st_size ?_)
    refine HCk.out.mono ?_
    rintro e w1 ⟨rfl, hB1⟩
    have HB1 := Lib.hid (below_then HA.out hB1)
    clear hB1
    go_wp2
    go_ret2
    exact ⟨by rw [hE.out, hP.out]; rfl, HB1.out⟩
end Go.Proofs.YtmbokpfgnicboaaGreat
