import Derived.Test.YtmbokpfgnicboaaGreatSt
import Derived.Test.YtmbokpfgnicboaaGreatMapInt
set_option linter.unusedVariables false
set_option linter.unusedSimpArgs false
/- The walks of package code: divisions of places. -/
namespace Go.Proofs.YtmbokpfgnicboaaGreat
open Go.RowKit Go.Hd _root_.Hd

theorem rdV_slice {w : World} {v : Value} {n : Nat} {F : Nat → Value} (h : RdV w v n F) : ∃ A c, v = .slice A n c ∧ n ≤ 9223372036854775807 := by
  obtain ⟨A, c, h, h1, h2, _⟩ := h
  exact ⟨A, c, h, by unfold maxLen at h2; omega⟩
theorem Row.shape {w : World} {v : Value} {a : Nat} (h : Row w v a) : ∃ A n c, v = .slice A n c ∧ n ≤ 9223372036854775807 := by
  obtain ⟨F, h1, _⟩ := h
  obtain ⟨A, c, h2, h3⟩ := rdV_slice h1
  exact ⟨A, _, c, h2, h3⟩

/-- How many ways to choose so many, none below 0. -/
def chsI (a : Nat) (b : Int) : Nat := if 0 ≤ b then chs a b.toNat else 0
theorem chsI_nat (a b : Nat) : chsI a (b : Int) = chs a b := by unfold chsI; rw [if_pos (by omega), Int.toNat_natCast]
theorem chsI_out {a : Nat} {b : Int} (h : b < 0 ∨ (a : Int) < b) : chsI a b = 0 := by
  unfold chsI
  split
  · exact choose_over (by omega)
  · rfl
theorem chsI_lim {a : Nat} (ha : a ≤ 128) (b : Int) : chsI a b ≤ 2 ^ 128 := by
  unfold chsI
  split
  · exact choose_128 ha _
  · omega

set_option maxRecDepth 100000 in
theorem of_row (a : Nat) (b : Int) (v : Value) (w : World) (h : Row w v a) :
    Calls Tryz.prog 142 #[v, .int .i64 b] w fun e w' => (∃ v', e = .returned v' ∧ Nt w v' (chsI a b)) ∧ w = w' := by
  obtain ⟨F, hR, hN⟩ := h
  obtain ⟨A, c, rfl, hl⟩ := rdV_slice hR
  obtain ⟨_, _, e, _, _, h3⟩ := hR
  cases e
  obtain ⟨b3, off, rfl, hc⟩ := h3 (by omega)
  have HN := Lib.hid hN
  clear h3 hN
  by_cases h1 : b < 0
  · have hz : Hid (chsI a b = 0) := chsI_out (.inl h1)
    clear hc
    go_enter Tryz.func142, Tryz.ntmps142
    go_wp2
    go_ret
    exact ⟨⟨_, rfl, by rw [hz.out]; exact Nt.nil _⟩, rfl⟩
  · obtain ⟨t, rfl⟩ := Int.eq_ofNat_of_zero_le (show 0 ≤ b by omega)
    by_cases h2 : t < a + 1
    · have hci := hc t h2
      have HNt := Lib.hid (HN.out t h2)
      have hz : Hid (chsI a (t : Int) = chs a t) := chsI_nat _ _
      obtain ⟨A2, n2, c2, hF⟩ := HNt.out.shape
      rw [hF] at hci
      have HF := Lib.hid hF
      have hlt : (t : Int) < ((a + 1 : Nat) : Int) := by omega
      clear hc hF
      go_enter Tryz.func142, Tryz.ntmps142
      go_wp2
      go_ret
      exact ⟨⟨_, rfl, by rw [hz.out, ← HF.out]; exact HNt.out⟩, rfl⟩
    · have hz : Hid (chsI a (t : Int) = 0) := chsI_out (.inr (by omega))
      have hge : ((a + 1 : Nat) : Int) ≤ (t : Int) := by omega
      clear hc
      go_enter Tryz.func142, Tryz.ntmps142
      go_wp2
      go_ret
      exact ⟨⟨_, rfl, by rw [hz.out]; exact Nt.nil _⟩, rfl⟩

theorem row_off3 {w : World} {v : Value} {a B b : Nat} (h : Row w v a) (hf : Fresh B v) (hb : b < B) {x : Int} (k0 : w.cell? ⟨b, 0, none⟩ = some (.int .i64 x)) (k1 : w.cell? ⟨b, 1, none⟩ = some (.slice none 0 0)) (k2 : w.cell? ⟨b, 2, none⟩ = some (.slice none 0 0)) (u0 u1 u2 : Value) :
    Row (((w.setCell ⟨b, 0, none⟩ u0).setCell ⟨b, 1, none⟩ u1).setCell ⟨b, 2, none⟩ u2) v a := by
  have h1 := row_off h hf hb (i := 0) (fun z e => by rw [k0] at e; cases e) u0
  have e1 : (w.setCell ⟨b, 0, none⟩ u0).cell? ⟨b, 1, none⟩ = some (.slice none 0 0) := by rw [World.cell?_setCell_other (h := by simp)]; exact k1
  have h2 := row_off h1 hf hb (i := 1) (fun z e => by rw [e1] at e; cases e) u1
  have e2 : ((w.setCell ⟨b, 0, none⟩ u0).setCell ⟨b, 1, none⟩ u1).cell? ⟨b, 2, none⟩ = some (.slice none 0 0) := by rw [World.cell?_setCell_other (h := by simp), World.cell?_setCell_other (h := by simp)]; exact k2
  exact row_off h2 hf hb (i := 2) (fun z e => by rw [e2] at e; cases e) u2

/-- The divisions of 2d places, k of them marked, as a value. -/
def Dvn (w : World) (v : Value) (d k : Nat) : Prop := ∃ m o, v = .agg #[.int .i64 d, m, o] ∧ Row w m k ∧ Row w o (2 * d - k)
theorem Dvn.below {w w1 : World} {v : Value} {d k : Nat} (h : Dvn w v d k) (hb : Below w.heap.size w w1) : Dvn w1 v d k := by
  obtain ⟨m, o, e, h1, h2⟩ := h
  exact ⟨m, o, e, h1.below hb, h2.below hb⟩

theorem row3 (w : World) (x y z : Value) (t : TypeId) : (w.alloc (.cells #[x, y, z] t)).rowIs w.heap.size t 3 (fun i => if i = 0 then x else if i = 1 then y else z) :=
  World.rowIs_alloc w _ _ _ (fun i hi => by
    match i, (show i < 3 from hi) with
    | 0, _ => rfl
    | 1, _ => rfl
    | 2, _ => rfl
    | n + 3, h => exact absurd h (by omega))

theorem T_eq (d k x : Nat) : chs k x * chsI (2 * d - k) ((d : Int) - x) = T d k x := by
  unfold T term
  by_cases h : x ≤ d
  · rw [if_pos h, show (d : Int) - x = ((d - x : Nat) : Int) by omega, chsI_nat]
  · rw [if_neg h, chsI_out (.inl (by omega)), Nat.mul_zero]
theorem T_lim {d k : Nat} (hd : d ≤ 64) (hk : k ≤ 2 * d) (x : Nat) : T d k x < Lim := by
  rw [← T_eq]
  refine lt_lim (k := 256) ?_ (by omega)
  have h1 : chs k x * chsI (2 * d - k) ((d : Int) - x) ≤ 2 ^ 128 * 2 ^ 128 := Nat.mul_le_mul (choose_128 (by omega) _) (chsI_lim (by omega) _)
  rw [← Nat.pow_add] at h1
  exact h1

set_option maxRecDepth 100000 in
set_option maxHeartbeats 1000000 in
theorem with_nt (d k x : Nat) (v : Value) (w : World) (h : Dvn w v d k) (hd : d ≤ 64) (hk : k ≤ 2 * d) (hx : x ≤ 1000) :
    Calls Tryz.prog 104 #[v, .int .i64 x] w (NtPost (T d k x) w) := by
  obtain ⟨m, o, rfl, hm, ho⟩ := h
  have hal := (Below.refl _ w).alloc (Nat.le_refl _) (.cells #[.int .i64 d, m, o] 144)
  have rs := row3 w (.int .i64 d) m o 144
  have c0 : (w.alloc (.cells #[.int .i64 d, m, o] 144)).cell? ⟨w.heap.size, 0, none⟩ = some (.int .i64 d) := rs.cell (i := 0) (by omega)
  have c1 : (w.alloc (.cells #[.int .i64 d, m, o] 144)).cell? ⟨w.heap.size, 1, none⟩ = some m := rs.cell (i := 1) (by omega)
  have c2 : (w.alloc (.cells #[.int .i64 d, m, o] 144)).cell? ⟨w.heap.size, 2, none⟩ = some o := rs.cell (i := 2) (by omega)
  have HA := Lib.hid hal
  have HM := Lib.hid (fun W (h : Below w.heap.size w W) => of_row k (x : Int) m W (hm.below h))
  have HO := Lib.hid (fun W (h : Below w.heap.size w W) => of_row (2 * d - k) ((d : Int) - x) o W (ho.below h))
  have HMul := Lib.hid (fun W p q (hp : Nt W p (chs k x)) (hq : Nt W q (chsI (2 * d - k) ((d : Int) - x))) => mul_nt _ _ p q W hp hq (choose_lim (show k ≤ 128 by omega) x) (lt_lim (chsI_lim (show 2 * d - k ≤ 128 by omega) _) (by omega)) (by rw [T_eq]; exact T_lim hd hk x))
  rw [chsI_nat] at HM
  rw [T_eq] at HMul
  obtain ⟨Am, nm, cm, rfl, _⟩ := hm.shape
  obtain ⟨Ao, no, co, rfl, _⟩ := ho.shape
  have hw1 : IntKind.i64.wrap ((d : Int) - x) = (d : Int) - x := by rw [IntKind.wrap_i64]; omega
  clear hal rs hm ho
  generalize chs k x = p1 at *
  generalize chsI (2 * d - k) ((d : Int) - x) = p2 at *
  generalize T d k x = p3 at *
  go_enter Tryz.func104, Tryz.ntmps104
  go_wp2_with fail
  generalize hW0 : w.alloc (.cells #[.int .i64 d, .slice Am nm cm, .slice Ao no co] 144) = W0 at *
  clear hW0
  go_upto_region 1 with fail
  go_cut [4] (fun s4 wx => ∃ A n c, s4 = .slice A n c ∧ Hid (Nt wx (.slice A n c) p3) ∧ Below w.heap.size w wx)
  case first =>
    go_region_held3 (fun w' => w'.cell? ⟨w.heap.size, 0, none⟩ = some (.int .i64 d) ∧ w'.cell? ⟨w.heap.size, 1, none⟩ = some (.slice Am nm cm) ∧ w'.cell? ⟨w.heap.size, 2, none⟩ = some (.slice Ao no co)) (first | go_keep | exact ⟨cell_below hD.out c0, cell_below hD.out c1, cell_below hD.out c2⟩)
      (first
        | (go_at_call_of 142 (Value.slice Am nm cm); refine (HM.out _ HA.out.drew).mono ?_; rintro e wa ⟨⟨p, rfl, hp⟩, rfl⟩; obtain ⟨Ap, np, cp, rfl⟩ := hp.shape; have Hp := Lib.hid hp; clear hp)
        | (go_at_call_of 142 (Value.slice Ao no co); refine (HO.out _ HA.out.drew).mono ?_; rintro e wa ⟨⟨q, rfl, hq⟩, rfl⟩; obtain ⟨Aq, nq, cq, rfl⟩ := hq.shape; have Hq := Lib.hid hq; clear hq)
        | (go_at_call 141; refine (HMul.out _ _ _ Hp.out Hq.out).mono ?_; rintro e wb ⟨r, rfl, hr, hBb⟩; obtain ⟨Ar, nr, cr, rfl⟩ := hr.shape; have hD := Lib.hid (below_then (w := W0) (Below.refl _ _).drew hBb); have Hr := Lib.hid hr; clear hr hBb)
        | (go_at_call 102; refine (must_any _ _ _).mono ?_; rintro e wm ⟨rfl, rfl⟩))
    all_goals
      go_wp2_with fail
      go_meet
      case rel => exact ⟨_, _, _, rfl, Hr.out, below_then HA.out hD.out⟩
  case rest =>
    obtain ⟨A5, n5, c5, rfl, HX, hbc⟩ := hcut
    have HB := Lib.hid hbc
    clear hbc
    go_wp2
    go_ret
    exact ⟨_, rfl, HX.out, HB.out⟩

set_option maxRecDepth 100000 in
set_option maxHeartbeats 1000000 in
theorem all_nt (d k : Nat) (v : Value) (w : World) (h : Dvn w v d k) (hd : d ≤ 64) :
    Calls Tryz.prog 105 #[v] w (NtPost (chs (2 * d) d) w) := by
  obtain ⟨m, o, rfl, hm, ho⟩ := h
  have hal := (Below.refl _ w).alloc (Nat.le_refl _) (.cells #[.int .i64 d, m, o] 144)
  have rs := row3 w (.int .i64 d) m o 144
  have c0 : (w.alloc (.cells #[.int .i64 d, m, o] 144)).cell? ⟨w.heap.size, 0, none⟩ = some (.int .i64 d) := rs.cell (i := 0) (by omega)
  have HA := Lib.hid hal
  have HR := Lib.hid (fun W => rowOf_nt (2 * d) W (by omega))
  have e2 : ((2 * d : Nat) : Int) = 2 * (d : Int) := by omega
  rw [e2] at HR
  have HO := Lib.hid (fun W r (h : Row W r (2 * d)) => of_row (2 * d) (d : Int) r W h)
  rw [chsI_nat] at HO
  obtain ⟨Am, nm, cm, rfl, _⟩ := hm.shape
  obtain ⟨Ao, no, co, rfl, _⟩ := ho.shape
  have hw1 : IntKind.i64.wrap (2 * (d : Int)) = 2 * (d : Int) := by rw [IntKind.wrap_i64]; omega
  clear hal rs hm ho e2
  generalize chs (2 * d) d = p3 at *
  go_enter Tryz.func105, Tryz.ntmps105
  go_wp2_with fail
  generalize hW0 : w.alloc (.cells #[.int .i64 d, .slice Am nm cm, .slice Ao no co] 144) = W0 at *
  clear hW0
  go_upto_region 1 with fail
  go_cut [2] (fun s4 wx => ∃ A n c, s4 = .slice A n c ∧ Hid (Nt wx (.slice A n c) p3) ∧ Below w.heap.size w wx)
  case first =>
    go_region_held3 (fun w' => w'.cell? ⟨w.heap.size, 0, none⟩ = some (.int .i64 d)) (first | go_keep | exact cell_below hD.out c0)
      (first
        | (go_at_call 139; refine (HR.out _).mono ?_; rintro e wa ⟨r, rfl, hr, hBa, _⟩; obtain ⟨Ar, nr, cr, rfl, _⟩ := hr.shape; have hD := Lib.hid (below_then (w := W0) (Below.refl _ _).drew hBa); have Hr := Lib.hid hr; clear hr hBa)
        | (go_at_call 142; refine (HO.out _ _ Hr.out).mono ?_; rintro e wb ⟨⟨q, rfl, hq⟩, rfl⟩; obtain ⟨Aq, nq, cq, rfl⟩ := hq.shape; have Hq := Lib.hid hq; clear hq))
    all_goals
      go_wp2_with fail
      go_meet
      case rel => exact ⟨_, _, _, rfl, Hq.out, below_then HA.out hD.out⟩
  case rest =>
    obtain ⟨A5, n5, c5, rfl, HX, hbc⟩ := hcut
    have HB := Lib.hid hbc
    clear hbc
    go_wp2
    go_ret
    exact ⟨_, rfl, HX.out, HB.out⟩

set_option maxRecDepth 100000 in
set_option maxHeartbeats 1000000 in
theorem divided_nt (d k : Nat) (w : World) (hd : d ≤ 64) (hk : k ≤ 2 * d) :
    Calls Tryz.prog 101 #[.int .i64 d, .int .i64 k] w fun e w' => ∃ v, e = .returned v ∧ Dvn w' v d k ∧ Below w.heap.size w w' := by
  have HR1 := Lib.hid (fun W => rowOf_nt k W (by omega))
  have HR2 := Lib.hid (fun W => rowOf_nt (2 * d - k) W (by omega))
  have e2 : ((2 * d - k : Nat) : Int) = 2 * (d : Int) - k := by omega
  rw [e2] at HR2
  have HR := Lib.hid (row3 w (.int .i64 0) (.slice none 0 0) (.slice none 0 0) 144)
  clear e2
  go_enter Tryz.func101, Tryz.ntmps101
  go_wp2_with fail
  refine (HR1.out _).mono ?_
  rintro e w1 ⟨v1, rfl, hr1, hB1, hf1⟩
  have HB1 := Lib.hid (below_then ((Below.refl _ w).alloc (Nat.le_refl _) _) hB1)
  have HRw1 := Lib.hid (HR.out.of_block (hB1.block _ HR.out.lt))
  have Hr1 := Lib.hid hr1
  have Hf1 := Lib.hid hf1
  obtain ⟨A1, n1, c1, rfl, _⟩ := hr1.shape
  clear hr1 hB1 hf1
  go_wp2_with fail
  refine (HR2.out _).mono ?_
  rintro e w2 ⟨v2, rfl, hr2, hB2, hf2⟩
  have HB2 := Lib.hid (below_then HB1.out hB2)
  have HRw2 := Lib.hid (HRw1.out.of_block (hB2.block _ HRw1.out.lt))
  have Hr1' := Lib.hid (Hr1.out.below hB2)
  have Hr2 := Lib.hid hr2
  have Hf2 := Lib.hid hf2
  have hw1s := HB1.out.size
  have hz2 : w.heap.size < w1.heap.size := HRw1.out.lt
  obtain ⟨A2, n2, c2, rfl, _⟩ := hr2.shape
  have z0 := HRw2.out.frozen 0
  have z1 := HRw2.out.frozen 1
  have z2 := HRw2.out.frozen 2
  have k0 : w2.cell? ⟨w.heap.size, 0, none⟩ = some (.int .i64 0) := HRw2.out.cell (i := 0) (by omega)
  have k1 : w2.cell? ⟨w.heap.size, 1, none⟩ = some (.slice none 0 0) := HRw2.out.cell (i := 1) (by omega)
  have k2 : w2.cell? ⟨w.heap.size, 2, none⟩ = some (.slice none 0 0) := HRw2.out.cell (i := 2) (by omega)
  clear hr2 hB2 hf2
  go_wp2
  refine bodyPost_ret (v := .agg #[.int .i64 d, .slice A1 n1 c1, .slice A2 n2 c2]) ?_ rfl ⟨_, rfl, ⟨_, _, rfl, ?_, ?_⟩, ?_⟩
  · simp [results, Tryz.f101, go_sem, k0, k1, k2]
  · exact row_off3 Hr1'.out Hf1.out (by simp) k0 k1 k2 _ _ _
  · exact row_off3 Hr2.out Hf2.out hz2 k0 k1 k2 _ _ _
  · exact ((HB2.out.setCell (p := ⟨w.heap.size, 0, none⟩) (Nat.le_refl _) _).setCell (p := ⟨w.heap.size, 1, none⟩) (Nat.le_refl _) _).setCell (p := ⟨w.heap.size, 2, none⟩) (Nat.le_refl _) _
end Go.Proofs.YtmbokpfgnicboaaGreat

/- The walks of package code: thresholds and tails. -/
namespace Go.Proofs.YtmbokpfgnicboaaGreat
open Go.RowKit Go.Hd _root_.Hd
set_option exponentiation.threshold 2000

theorem okT_eq (d m n k x : Nat) : okT d m n k x = inside (sum (T d k) (x + 1)) (chs (2 * d) d) m n := rfl
theorem sums_128 {d k x : Nat} (hd : d ≤ 64) (hk : k ≤ 2 * d) (hx : x ≤ k + 1) : sum (T d k) x ≤ 2 ^ 128 := Nat.le_trans (T_le hk hx) (choose_128 (by omega) _)
theorem mul_lim {x y : Nat} (hx : x ≤ 2 ^ 128) (hy : y < B ^ 4) : x * y < Lim := by
  refine lt_lim (k := 256) ?_ (by omega)
  have h1 : x * y ≤ 2 ^ 128 * 2 ^ 128 := Nat.mul_le_mul hx (Nat.le_of_lt (by rw [Bpow_two] at hy; exact hy))
  rw [← Nat.pow_add] at h1
  exact h1
theorem lim4 {y : Nat} (hy : y < B ^ 4) : y < Lim := lt_lim (k := 128) (Nat.le_of_lt (by rw [Bpow_two] at hy; exact hy)) (by omega)

theorem row3_cells {w : World} {b : Nat} {t : TypeId} {x y z : Value} (h : w.rowIs b t 3 (fun i => if i = 0 then x else if i = 1 then y else z)) : w.cell? ⟨b, 0, none⟩ = some x ∧ w.cell? ⟨b, 1, none⟩ = some y ∧ w.cell? ⟨b, 2, none⟩ = some z :=
  ⟨h.cell (i := 0) (by omega), h.cell (i := 1) (by omega), h.cell (i := 2) (by omega)⟩
theorem row3_set {w : World} {b : Nat} {t : TypeId} {x y z : Value} (h : w.rowIs b t 3 (fun i => if i = 0 then x else if i = 1 then y else z)) (u0 u1 u2 : Value) :
    (((w.setCell ⟨b, 0, none⟩ u0).setCell ⟨b, 1, none⟩ u1).setCell ⟨b, 2, none⟩ u2).rowIs b t 3 (fun i => if i = 0 then u0 else if i = 1 then u1 else u2) :=
  (((h.set 0 u0).set 1 u1).set 2 u2).congr fun i hi => by
    match i, hi with
    | 0, _ => rfl
    | 1, _ => rfl
    | 2, _ => rfl

set_option maxRecDepth 100000 in
set_option maxHeartbeats 2000000 in
theorem threshold_any (U : Int) (d k m n : Nat) (K : Nat → Nat) (lv lu : Value) (w : World) (hlv : Nt w lv m) (hlu : Nt w lu n) (hd : d ≤ 64) (hk : k ≤ 2 * d) (hm : m < B ^ 4) (hn : n < B ^ 4) :
    Calls Tryz.prog 106 #[stV U (d : Int) K lv lu, .int .i64 k] w fun e w' => e = .returned (.int .i64 (thr d m n k)) ∧ Below w.heap.size w w' := by
  have hal := (Below.refl _ w).alloc (Nat.le_refl _) (.cells #[.int .i64 U, .int .i64 (d : Int), .int .u8 (K 0), .int .u8 (K 1), .int .u8 (K 2), .int .u8 (K 3), .int .u8 (K 4), .int .u8 (K 5), .int .u8 (K 6), .int .u8 (K 7), .int .u8 (K 8), .int .u8 (K 9), .int .u8 (K 10), .int .u8 (K 11), .int .u8 (K 12), .int .u8 (K 13), .int .u8 (K 14), .int .u8 (K 15), lv, lu] 29)
  have HA := Lib.hid hal
  have HS := Lib.hid (st_row w U (d : Int) K lv lu 29)
  have HLv := Lib.hid hlv
  have HLu := Lib.hid hlu
  have HDv := Lib.hid (fun W => divided_nt d k W hd hk)
  have HAll := Lib.hid (fun W v (h : Dvn W v d k) => all_nt d k v W h hd)
  have HWith := Lib.hid (fun W x v (h : Dvn W v d k) (hx : x ≤ 1000) => with_nt d k x v W h hd hk hx)
  obtain ⟨A1, n1, c1, rfl⟩ := hlv.shape
  obtain ⟨A2, n2, c2, rfl⟩ := hlu.shape
  have k1 : (w.alloc (.cells #[.int .i64 U, .int .i64 (d : Int), .int .u8 (K 0), .int .u8 (K 1), .int .u8 (K 2), .int .u8 (K 3), .int .u8 (K 4), .int .u8 (K 5), .int .u8 (K 6), .int .u8 (K 7), .int .u8 (K 8), .int .u8 (K 9), .int .u8 (K 10), .int .u8 (K 11), .int .u8 (K 12), .int .u8 (K 13), .int .u8 (K 14), .int .u8 (K 15), (.slice A1 n1 c1), (.slice A2 n2 c2)] 29)).cell? ⟨w.heap.size, 1, none⟩ = some (.int .i64 d) := HS.out.cell (i := 1) (by omega)
  clear hal hlv hlu
  go_enter Tryz.func106, Tryz.ntmps106
  go_wp2_with fail
  refine (HDv.out _).mono ?_
  rintro e w1 ⟨v1, rfl, hv1, hB1⟩
  have HB1 := Lib.hid (below_then HA.out hB1)
  have HS1 := Lib.hid (HS.out.of_block (hB1.block _ HS.out.lt))
  have HDn := Lib.hid hv1
  obtain ⟨M, O, rfl, hM, hO⟩ := hv1
  obtain ⟨Am, nm, cm, rfl, _⟩ := hM.shape
  obtain ⟨Ao, no, co, rfl, _⟩ := hO.shape
  have hsz : w.heap.size < w1.heap.size := HS1.out.lt
  clear hB1 k1 hM hO
  go_wp2_with fail
  have hal1 := (Below.refl _ w1).alloc (Nat.le_refl _) (.cells #[.int .i64 d, .slice Am nm cm, .slice Ao no co] 144)
  have HBx := Lib.hid (row3 w1 (.int .i64 d) (.slice Am nm cm) (.slice Ao no co) 144)
  refine (HAll.out _ _ (HDn.out.below hal1)).mono ?_
  rintro e w2 ⟨va, rfl, hNa, hB2⟩
  have HB2 := Lib.hid (below_then (below_then HB1.out hal1) hB2)
  have HD2 := Lib.hid ((HDn.out.below hal1).below hB2)
  have HBx2 := Lib.hid (HBx.out.of_block (hB2.block _ HBx.out.lt))
  have HS2 := Lib.hid ((HS1.out.alloc (.cells #[.int .i64 d, .slice Am nm cm, .slice Ao no co] 144)).of_block (hB2.block _ (by have := (HS1.out.alloc (.cells #[.int .i64 d, .slice Am nm cm, .slice Ao no co] 144)).lt; exact this)))
  have HNa := Lib.hid hNa
  obtain ⟨Aa, na, ca, rfl⟩ := hNa.shape
  have HLv2 := Lib.hid (HLv.out.below HB2.out)
  have HLu2 := Lib.hid (HLu.out.below HB2.out)
  obtain ⟨q0, q1, q2⟩ := row3_cells HBx2.out
  have q18 : w2.cell? ⟨w.heap.size, 18, none⟩ = some (.slice A1 n1 c1) := HS2.out.cell (i := 18) (by omega)
  have q19 : w2.cell? ⟨w.heap.size, 19, none⟩ = some (.slice A2 n2 c2) := HS2.out.cell (i := 19) (by omega)
  clear hNa hB2 hal1
  go_wp2_with fail
  go_loopw [7, 8] (fun s7 s8 wr => ∃ (x : Nat), x ≤ k + 1 ∧ s8 = .int .i64 x ∧ Hid (Nt wr s7 (sum (T d k) x)) ∧ Hid (∀ j, j < x → okT d m n k j = true) ∧ Below w2.heap.size w2 wr) (fun _ s8 _ => k + 1 - (intOf s8).toNat)
  case atStart => exact ⟨0, Nat.zero_le _, rfl, Nt.nil _, fun j hj => by omega, Below.refl _ _⟩
  case round =>
    obtain ⟨x, hx, rfl, hs, hok, hbel⟩ := hrel
    obtain ⟨W0, hW0⟩ : ∃ W0 : World, W0 = wr := ⟨_, rfl⟩
    rw [← hW0] at hs hbel ⊢
    clear hW0
    have HBel := Lib.hid hbel
    have p0 := cell_below hbel q0
    have p1 := cell_below hbel q1
    have p2 := cell_below hbel q2
    have p18 := cell_below hbel q18
    have p19 := cell_below hbel q19
    obtain ⟨A7, n7, c7, rfl⟩ := hs.out.shape
    by_cases hlt : x ≤ k
    · have HW := Lib.hid (HWith.out W0 x _ (HD2.out.below hbel) (by omega))
      clear q0 q1 q2 q18 q19 hbel
      go_wp2_with fail
      refine HW.out.mono ?_
      rintro e w3 ⟨v3, rfl, hN3, hB3⟩
      have HB3 := Lib.hid (below_then HBel.out hB3)
      have HN3 := Lib.hid hN3
      have HS7 := Lib.hid (hs.out.below hB3)
      obtain ⟨A3, n3, c3, rfl⟩ := hN3.shape
      have p18 := cell_below hB3 p18
      have p19 := cell_below hB3 p19
      have p0 := cell_below hB3 p0
      have p1 := cell_below hB3 p1
      have p2 := cell_below hB3 p2
      have HAdd := Lib.hid (add_nt (sum (T d k) x) (T d k x) _ _ w3 HS7.out HN3.out (lt_lim (sums_128 hd hk hx) (by omega)) (T_lim hd hk x) (by rw [← sum_succ]; exact lt_lim (sums_128 hd hk (by omega)) (by omega)))
      rw [← sum_succ] at HAdd
      clear hN3 hB3
      go_wp2_with fail
      refine HAdd.out.mono ?_
      rintro e w4 ⟨v4, rfl, hN4, hB4⟩
      have HB4 := Lib.hid (below_then HB3.out hB4)
      have HN4 := Lib.hid hN4
      obtain ⟨A4, n4, c4, rfl⟩ := hN4.shape
      have p18 := cell_below hB4 p18
      have p19 := cell_below hB4 p19
      clear hN4 hB4
      go_wp2_with fail
      refine (must_any _ _ _).mono ?_
      rintro e wm ⟨rfl, rfl⟩
      have HIn := Lib.hid (within_nt (sum (T d k) (x + 1)) (chs (2 * d) d) m n _ _ _ _ w4 HN4.out (HNa.out.below HB4.out) (HLv2.out.below HB4.out) (HLu2.out.below HB4.out) (lt_lim (sums_128 hd hk (by omega)) (by omega)) (choose_lim (by omega) _) (lim4 hm) (lim4 hn) (mul_lim (sums_128 hd hk (by omega)) hn) (by rw [Nat.mul_comm]; exact mul_lim (choose_128 (by omega) _) hm))
      rw [← okT_eq] at HIn
      cases hc : okT d m n k x with
      | true =>
        rw [hc] at HIn
        have HOk : Hid (∀ j, j < x + 1 → okT d m n k j = true) := fun j hj => by
          rcases Nat.lt_or_ge j x with h | h
          · exact hok.out j h
          · obtain rfl : j = x := by omega
            exact hc
        clear hc
        go_wp2_with fail
        refine HIn.out.mono ?_
        rintro e w5 ⟨rfl, hB5⟩
        have HB5 := Lib.hid (below_then HB4.out hB5)
        have HN5 := Lib.hid (HN4.out.below hB5)
        clear hB5
        go_wp2
        go_roundw
        case rel => exact ⟨x + 1, by omega, by go_num, HN5.out, HOk.out, HB5.out⟩
        case measure => simp [intOf]; omega
      | false =>
        rw [hc] at HIn
        have HT : Hid (thr d m n k = (x : Int) - 1) := by
          show _ = _
          unfold thr
          rw [good_of (by omega) hok.out (fun _ => hc)]
        clear hc
        go_wp2_with fail
        refine HIn.out.mono ?_
        rintro e w5 ⟨rfl, hB5⟩
        have HB5 := Lib.hid (below_then HB4.out hB5)
        clear hB5
        go_wp2
        go_ret
        exact ⟨by rw [HT.out]; rfl, below_then HB2.out HB5.out⟩
    · obtain rfl : x = k + 1 := by omega
      have HT : Hid (thr d m n k = (k : Int)) := by
        show _ = _
        unfold thr
        rw [good_of (Nat.le_refl _) hok.out (fun h => by omega)]
        omega
      clear q0 q1 q2 q18 q19 hbel
      go_wp2
      go_ret
      exact ⟨by rw [HT.out]; rfl, below_then HB2.out HBel.out⟩
end Go.Proofs.YtmbokpfgnicboaaGreat

/- The walks of package code: tails; Threshold. -/
namespace Go.Proofs.YtmbokpfgnicboaaGreat
open Go.RowKit Go.Hd _root_.Hd
set_option exponentiation.threshold 2000

/-- The arguments of Tail that are taken. -/
def TlOk (d k x : Int) : Prop := 1 ≤ d ∧ d ≤ 64 ∧ 0 ≤ k ∧ k ≤ 2 * d ∧ -1 ≤ x ∧ x ≤ k
noncomputable def tlE (d k x : Int) : Int := if tt (TlOk d k x) then 0 else 2
/-- How many divisions the tail counts, and of how many. -/
def tlS (d k x : Int) : Nat := sum (T d.toNat k.toNat) (x + 1).toNat
def tlA (d : Int) : Nat := chs (2 * d.toNat) d.toNat
noncomputable def tlN (d k x : Int) : Nat := if tt (TlOk d k x) then tlS d k x / Nat.gcd (tlS d k x) (tlA d) else 0
noncomputable def tlD (d k x : Int) : Nat := if tt (TlOk d k x) then tlA d / Nat.gcd (tlS d k x) (tlA d) else 0

/-- A fraction and an error. -/
def FrEPost (E : Int) (m n : Nat) (w : World) (e : Ending) (w' : World) : Prop := ∃ v' u', e = .returned (.tuple #[.agg #[v', u'], .int .i64 E]) ∧ Nt w' v' m ∧ Nt w' u' n ∧ Below w.heap.size w w'

set_option maxRecDepth 100000 in
set_option maxHeartbeats 2000000 in
theorem tail_bad (d k x : Int) (w : World) (h : ¬ TlOk d k x) :
    Calls Tryz.prog 44 #[.int .i64 d, .int .i64 k, .int .i64 x] w (FrEPost 2 0 0 w) := by
  have HB : Hid (Below w.heap.size w (w.alloc (.cells #[.slice none 0 0, .slice none 0 0] 27))) := (Below.refl _ w).alloc (Nat.le_refl _) _
  by_cases h1 : d < 1
  · clear h
    go_enter Tryz.func44, Tryz.ntmps44
    go_wp2
    exact bodyPost_ret (v := .tuple #[.agg #[.slice none 0 0, .slice none 0 0], .int .i64 2]) (by simp [results, Tryz.f44, go_sem]) rfl ⟨_, _, rfl, Nt.nil _, Nt.nil _, HB.out⟩
  · by_cases h2 : 64 < d
    · clear h
      go_enter Tryz.func44, Tryz.ntmps44
      go_wp2
      exact bodyPost_ret (v := .tuple #[.agg #[.slice none 0 0, .slice none 0 0], .int .i64 2]) (by simp [results, Tryz.f44, go_sem]) rfl ⟨_, _, rfl, Nt.nil _, Nt.nil _, HB.out⟩
    · by_cases h3 : k < 0
      · clear h
        go_enter Tryz.func44, Tryz.ntmps44
        go_wp2
        exact bodyPost_ret (v := .tuple #[.agg #[.slice none 0 0, .slice none 0 0], .int .i64 2]) (by simp [results, Tryz.f44, go_sem]) rfl ⟨_, _, rfl, Nt.nil _, Nt.nil _, HB.out⟩
      · by_cases h4 : 2 * d < k
        · clear h
          go_enter Tryz.func44, Tryz.ntmps44
          go_wp2
          exact bodyPost_ret (v := .tuple #[.agg #[.slice none 0 0, .slice none 0 0], .int .i64 2]) (by simp [results, Tryz.f44, go_sem]) rfl ⟨_, _, rfl, Nt.nil _, Nt.nil _, HB.out⟩
        · by_cases h5 : x < -1
          · clear h
            go_enter Tryz.func44, Tryz.ntmps44
            go_wp2
            exact bodyPost_ret (v := .tuple #[.agg #[.slice none 0 0, .slice none 0 0], .int .i64 2]) (by simp [results, Tryz.f44, go_sem]) rfl ⟨_, _, rfl, Nt.nil _, Nt.nil _, HB.out⟩
          · have h6 : k < x := by
              rcases Int.lt_or_le k x with h6 | h6
              · exact h6
              · exact absurd ⟨by omega, by omega, by omega, by omega, by omega, h6⟩ h
            clear h
            go_enter Tryz.func44, Tryz.ntmps44
            go_wp2
            exact bodyPost_ret (v := .tuple #[.agg #[.slice none 0 0, .slice none 0 0], .int .i64 2]) (by simp [results, Tryz.f44, go_sem]) rfl ⟨_, _, rfl, Nt.nil _, Nt.nil _, HB.out⟩

set_option maxRecDepth 100000 in
set_option maxHeartbeats 2000000 in
theorem tail_good (d k x : Nat) (w : World) (hd1 : 1 ≤ d) (hd : d ≤ 64) (hk : k ≤ 2 * d) (hx : x ≤ k + 1) :
    Calls Tryz.prog 44 #[.int .i64 d, .int .i64 k, .int .i64 ((x : Int) - 1)] w (FrEPost 0 (sum (T d k) x / Nat.gcd (sum (T d k) x) (chs (2 * d) d)) (chs (2 * d) d / Nat.gcd (sum (T d k) x) (chs (2 * d) d)) w) := by
  have HDv := Lib.hid (fun W => divided_nt d k W hd hk)
  have HAll := Lib.hid (fun W v (h : Dvn W v d k) => all_nt d k v W h hd)
  have HWith := Lib.hid (fun W y v (h : Dvn W v d k) (hy : y ≤ 1000) => with_nt d k y v W h hd hk hy)
  have HRat := Lib.hid (fun W p q (hp : Nt W p (sum (T d k) x)) (hq : Nt W q (chs (2 * d) d)) => ratio_nt _ _ p q W hp hq (lt_lim (sums_128 hd hk hx) (by omega)) (choose_lim (by omega) _) (choose_pos (by omega)))
  have HA := Lib.hid ((Below.refl _ w).alloc (Nat.le_refl _) (.cells #[.slice none 0 0, .slice none 0 0] 27))
  have HR := Lib.hid (row2 w (.slice none 0 0) (.slice none 0 0) 27)
  have g1 : (d : Int) ≤ 64 := by omega
  have g2 : (1 : Int) ≤ (d : Int) := by omega
  have g3 : (k : Int) ≤ 2 * (d : Int) := by omega
  have g4 : (-1 : Int) ≤ (x : Int) - 1 := by omega
  have g5 : (x : Int) - 1 ≤ (k : Int) := by omega
  generalize Nat.gcd (sum (T d k) x) (chs (2 * d) d) = gg at *
  go_enter Tryz.func44, Tryz.ntmps44
  go_wp2_with fail
  refine (HDv.out _).mono ?_
  rintro e w1 ⟨v1, rfl, hv1, hB1⟩
  have HB1 := Lib.hid (below_then HA.out hB1)
  have HR1 := Lib.hid (HR.out.of_block (hB1.block _ HR.out.lt))
  have HDn := Lib.hid hv1
  obtain ⟨M, O, rfl, hM, hO⟩ := hv1
  obtain ⟨Am, nm, cm, rfl, _⟩ := hM.shape
  obtain ⟨Ao, no, co, rfl, _⟩ := hO.shape
  have hal1 := (Below.refl _ w1).alloc (Nat.le_refl _) (.cells #[.int .i64 d, .slice Am nm cm, .slice Ao no co] 144)
  have HBx := Lib.hid (row3 w1 (.int .i64 d) (.slice Am nm cm) (.slice Ao no co) 144)
  have HB2 := Lib.hid (below_then HB1.out hal1)
  have HD2 := Lib.hid (HDn.out.below hal1)
  have HR2 := Lib.hid (HR1.out.alloc (.cells #[.int .i64 d, .slice Am nm cm, .slice Ao no co] 144))
  clear hB1 hM hO hal1
  go_wp2_with fail
  generalize hw2 : w1.alloc (.cells #[.int .i64 d, .slice Am nm cm, .slice Ao no co] 144) = w2 at *
  clear hw2
  obtain ⟨q0, q1, q2⟩ := row3_cells HBx.out
  go_loopw [9, 42] (fun s9 s42 wr => ∃ (y : Nat), y ≤ x ∧ s42 = .int .i64 y ∧ Hid (Nt wr s9 (sum (T d k) y)) ∧ Below w2.heap.size w2 wr) (fun _ s42 _ => x - (intOf s42).toNat)
  case atStart => exact ⟨0, Nat.zero_le _, rfl, Nt.nil _, Below.refl _ _⟩
  case round =>
    obtain ⟨y, hy, rfl, hs, hbel⟩ := hrel
    obtain ⟨W0, hW0⟩ : ∃ W0 : World, W0 = wr := ⟨_, rfl⟩
    rw [← hW0] at hs hbel ⊢
    clear hW0
    have HBel := Lib.hid hbel
    have p0 := cell_below hbel q0
    have p1 := cell_below hbel q1
    have p2 := cell_below hbel q2
    obtain ⟨A7, n7, c7, rfl⟩ := hs.out.shape
    by_cases hlt : y < x
    · have HW := Lib.hid (HWith.out W0 y _ (HD2.out.below hbel) (by omega))
      clear q0 q1 q2 hbel
      go_wp2_with fail
      refine HW.out.mono ?_
      rintro e w3 ⟨v3, rfl, hN3, hB3⟩
      have HB3 := Lib.hid (below_then HBel.out hB3)
      have HN3 := Lib.hid hN3
      have HS7 := Lib.hid (hs.out.below hB3)
      obtain ⟨A3, n3, c3, rfl⟩ := hN3.shape
      have HAdd := Lib.hid (add_nt (sum (T d k) y) (T d k y) _ _ w3 HS7.out HN3.out (lt_lim (sums_128 hd hk (by omega)) (by omega)) (T_lim hd hk y) (by rw [← sum_succ]; exact lt_lim (sums_128 hd hk (by omega)) (by omega)))
      rw [← sum_succ] at HAdd
      clear hN3 hB3
      go_wp2_with fail
      refine HAdd.out.mono ?_
      rintro e w4 ⟨v4, rfl, hN4, hB4⟩
      have HB4 := Lib.hid (below_then HB3.out hB4)
      have HN4 := Lib.hid hN4
      obtain ⟨A4, n4, c4, rfl⟩ := hN4.shape
      clear hN4 hB4
      go_wp2_with fail
      refine (must_any _ _ _).mono ?_
      rintro e wm ⟨rfl, rfl⟩
      go_wp2
      go_roundw
      case rel => exact ⟨y + 1, by omega, by go_num, HN4.out, HB4.out⟩
      case measure => simp [intOf]; omega
    · obtain rfl : y = x := by omega
      have HAl := Lib.hid (HAll.out W0 _ (HD2.out.below hbel))
      clear q0 q1 q2 hbel
      go_wp2_with fail
      refine HAl.out.mono ?_
      rintro e w3 ⟨v3, rfl, hN3, hB3⟩
      have HB3 := Lib.hid (below_then HBel.out hB3)
      have HN3 := Lib.hid hN3
      have HS7 := Lib.hid (hs.out.below hB3)
      obtain ⟨A3, n3, c3, rfl⟩ := hN3.shape
      have HRt := Lib.hid (HRat.out w3 _ _ HS7.out HN3.out)
      clear hN3 hB3
      go_wp2_with fail
      refine HRt.out.mono ?_
      rintro e w4 ⟨v4, u4, rfl, hN4, hM4, hB4⟩
      have HB4 := Lib.hid (below_then HB3.out hB4)
      have HN4 := Lib.hid hN4
      have HM4 := Lib.hid hM4
      obtain ⟨A4, n4, c4, rfl⟩ := hN4.shape
      obtain ⟨A5, n5, c5, rfl⟩ := hM4.shape
      have HR4 := Lib.hid (HR2.out.of_block (HB4.out.block _ HR2.out.lt))
      have c0 : w4.cell? ⟨w.heap.size, 0, none⟩ = some (.slice none 0 0) := HR4.out.cell (i := 0) (by omega)
      have c1 : w4.cell? ⟨w.heap.size, 1, none⟩ = some (.slice none 0 0) := HR4.out.cell (i := 1) (by omega)
      have z0 := HR4.out.frozen 0
      have z1 := HR4.out.frozen 1
      clear hN4 hM4 hB4
      go_wp2
      refine bodyPost_ret (v := .tuple #[.agg #[.slice A4 n4 c4, .slice A5 n5 c5], .int .i64 0]) ?_ rfl ⟨_, _, rfl, ?_, ?_, ?_⟩
      · simp [results, Tryz.f44, go_sem, c0, c1]
      · exact nt_over2 HN4.out c0 c1 (by omega) _ _
      · exact nt_over2 HM4.out c0 c1 (by omega) _ _
      · exact ((below_then HB2.out HB4.out).setCell (p := ⟨w.heap.size, 0, none⟩) (Nat.le_refl _) _).setCell (p := ⟨w.heap.size, 1, none⟩) (Nat.le_refl _) _

theorem tail_any (d k x : Int) (w : World) : Calls Tryz.prog 44 #[.int .i64 d, .int .i64 k, .int .i64 x] w (FrEPost (tlE d k x) (tlN d k x) (tlD d k x) w) := by
  by_cases h : TlOk d k x
  · unfold tlE tlN tlD
    rw [tt_pos h, if_pos rfl, if_pos rfl, if_pos rfl]
    obtain ⟨h1, h2, h3, h4, h5, h6⟩ := h
    have := tail_good d.toNat k.toNat (x + 1).toNat w (by omega) (by omega) (by omega) (by omega)
    rw [show ((d.toNat : Nat) : Int) = d by omega, show ((k.toNat : Nat) : Int) = k by omega, show (((x + 1).toNat : Nat) : Int) - 1 = x by omega] at this
    exact this
  · unfold tlE tlN tlD
    rw [tt_neg h]
    exact tail_bad d k x w h
end Go.Proofs.YtmbokpfgnicboaaGreat

/- The walks of package code: Threshold. -/
namespace Go.Proofs.YtmbokpfgnicboaaGreat
open Go.RowKit Go.Hd _root_.Hd
set_option exponentiation.threshold 2000

/-- What Threshold answers. -/
noncomputable def thE (U Bk : Int) (n : Nat) (f : Nat → Nat) (m : Nat) (g : Nat → Nat) (k : Int) : Int := if tt (VSt U Bk n f m g) then (if 0 ≤ k ∧ k ≤ 2 * Bk then 0 else 2) else 70
noncomputable def thV (U Bk : Int) (n : Nat) (f : Nat → Nat) (m : Nat) (g : Nat → Nat) (k : Int) : Int := if tt (VSt U Bk n f m g) then (if 0 ≤ k ∧ k ≤ 2 * Bk then thr Bk.toNat (val f n) (val g m) k.toNat else 0) else 0

/-- What a valid code of steps has. -/
theorem vst_facts {U Bk : Int} {n m : Nat} {f g : Nat → Nat} (h : VSt U Bk n f m g) (hf : ∀ j, j < n → f j < B) (hg : ∀ j, j < m → g j < B) :
    ∃ d : Nat, Bk = (d : Int) ∧ 1 ≤ d ∧ d ≤ 64 ∧ Canon f n ∧ Canon g m ∧ val f n < B ^ 4 ∧ val g m < B ^ 4 ∧ val f n < val g m := by
  obtain ⟨h1, h2, h3, h4, h5, h6, h7, h8⟩ := h
  obtain ⟨c1, c2, _, _⟩ := vf_canon h5 hf hg
  exact ⟨Bk.toNat, by omega, by omega, by omega, c1, c2, (c1.len_le_iff 4).1 h6, (c2.len_le_iff 4).1 h7, h8⟩

set_option maxRecDepth 100000 in
set_option maxHeartbeats 1000000 in
theorem thresholdE_any (U Bk : Int) (K : Nat → Nat) (n m : Nat) (f g : Nat → Nat) (v u : Value) (k : Int) (w : World) (hv : Rd w .u32 v n f) (hu : Rd w .u32 u m g) (hf : ∀ j, j < n → f j < B) (hg : ∀ j, j < m → g j < B) :
    Calls Tryz.prog 57 #[stV U Bk K v u, .int .i64 k] w fun e w' => e = .returned (.tuple #[.int .i64 (thV U Bk n f m g k), .int .i64 (thE U Bk n f m g k)]) ∧ Below w.heap.size w w' := by
  have hal := (Below.refl _ w).alloc (Nat.le_refl _) (.cells #[.int .i64 U, .int .i64 Bk, .int .u8 (K 0), .int .u8 (K 1), .int .u8 (K 2), .int .u8 (K 3), .int .u8 (K 4), .int .u8 (K 5), .int .u8 (K 6), .int .u8 (K 7), .int .u8 (K 8), .int .u8 (K 9), .int .u8 (K 10), .int .u8 (K 11), .int .u8 (K 12), .int .u8 (K 13), .int .u8 (K 14), .int .u8 (K 15), v, u] 29)
  have HCk := Lib.hid (checkSteps_any U Bk K n m f g v u _ (hv.below hal) (hu.below hal) hf hg)
  have HA := Lib.hid hal
  have HS := Lib.hid (st_row w U Bk K v u 29)
  have HV := Lib.hid hv
  have HU := Lib.hid hu
  obtain ⟨A, n', c, rfl⟩ : ∃ A n c, v = .slice A n c := by obtain ⟨A, c, h, _⟩ := hv; exact ⟨_, _, _, h⟩
  obtain ⟨A2, m', c2, rfl⟩ : ∃ A n c, u = .slice A n c := by obtain ⟨A, c, h, _⟩ := hu; exact ⟨_, _, _, h⟩
  by_cases hs : VSt U Bk n f m g
  · rw [spE_yes hs] at HCk
    obtain ⟨d, rfl, hd1, hd, cf, cg, lf, lg, hlt⟩ := vst_facts hs hf hg
    have HTh := Lib.hid (fun (q : Nat) (hq : q ≤ 2 * d) W (h : Below w.heap.size w W) => threshold_any U d q (val f n) (val g m) K _ _ W (Nt.below ⟨n, f, HV.out, cf, rfl⟩ h) (Nt.below ⟨m, g, HU.out, cg, rfl⟩ h) hd hq lf lg)
    by_cases h1 : k < 0
    · have hE : Hid (thE U (d : Int) n f m g k = 2) := by show _ = _; unfold thE; rw [tt_pos hs, if_pos rfl, if_neg (by omega)]
      have hVv : Hid (thV U (d : Int) n f m g k = 0) := by show _ = _; unfold thV; rw [tt_pos hs, if_pos rfl, if_neg (by omega)]
      clear hv hu hf hg hal hs cf cg lf lg
      go_enter Tryz.func57, Tryz.ntmps57
      go_wp2_with (refine wp_load_whole rfl 29 _ rfl w.heap.size rfl 29 20 _ _ _ HS.out rfl (st_cs _ _ _ _ _) Tryz.underlying29 rfl st_size ?_)
      refine HCk.out.mono ?_
      rintro e w1 ⟨rfl, hB1⟩
      have HB1 := Lib.hid (below_then HA.out hB1)
      clear hB1
      go_wp2
      go_ret2
      exact ⟨by rw [hE.out, hVv.out]; rfl, HB1.out⟩
    · by_cases h2 : 2 * (d : Int) < k
      · have hE : Hid (thE U (d : Int) n f m g k = 2) := by show _ = _; unfold thE; rw [tt_pos hs, if_pos rfl, if_neg (by omega)]
        have hVv : Hid (thV U (d : Int) n f m g k = 0) := by show _ = _; unfold thV; rw [tt_pos hs, if_pos rfl, if_neg (by omega)]
        have k1 : (w.alloc (.cells #[.int .i64 U, .int .i64 (d : Int), .int .u8 (K 0), .int .u8 (K 1), .int .u8 (K 2), .int .u8 (K 3), .int .u8 (K 4), .int .u8 (K 5), .int .u8 (K 6), .int .u8 (K 7), .int .u8 (K 8), .int .u8 (K 9), .int .u8 (K 10), .int .u8 (K 11), .int .u8 (K 12), .int .u8 (K 13), .int .u8 (K 14), .int .u8 (K 15), (.slice A n' c), (.slice A2 m' c2)] 29)).cell? ⟨w.heap.size, 1, none⟩ = some (.int .i64 d) := HS.out.cell (i := 1) (by omega)
        clear hv hu hf hg hal hs cf cg lf lg
        go_enter Tryz.func57, Tryz.ntmps57
        go_wp2_with (refine wp_load_whole rfl 29 _ rfl w.heap.size rfl 29 20 _ _ _ HS.out rfl (st_cs _ _ _ _ _) Tryz.underlying29 rfl st_size ?_)
        refine HCk.out.mono ?_
        rintro e w1 ⟨rfl, hB1⟩
        have HB1 := Lib.hid (below_then HA.out hB1)
        have k1' := cell_below hB1 k1
        clear hB1 k1
        go_wp2
        go_ret2
        exact ⟨by rw [hE.out, hVv.out]; rfl, HB1.out⟩
      · obtain ⟨q, rfl⟩ := Int.eq_ofNat_of_zero_le (show 0 ≤ k by omega)
        have hE : Hid (thE U (d : Int) n f m g (q : Int) = 0) := by show _ = _; unfold thE; rw [tt_pos hs, if_pos rfl, if_pos (by omega)]
        have hVv : Hid (thV U (d : Int) n f m g (q : Int) = thr d (val f n) (val g m) q) := by show _ = _; unfold thV; rw [tt_pos hs, if_pos rfl, if_pos (by omega), Int.toNat_natCast, Int.toNat_natCast]
        have k1 : (w.alloc (.cells #[.int .i64 U, .int .i64 (d : Int), .int .u8 (K 0), .int .u8 (K 1), .int .u8 (K 2), .int .u8 (K 3), .int .u8 (K 4), .int .u8 (K 5), .int .u8 (K 6), .int .u8 (K 7), .int .u8 (K 8), .int .u8 (K 9), .int .u8 (K 10), .int .u8 (K 11), .int .u8 (K 12), .int .u8 (K 13), .int .u8 (K 14), .int .u8 (K 15), (.slice A n' c), (.slice A2 m' c2)] 29)).cell? ⟨w.heap.size, 1, none⟩ = some (.int .i64 d) := HS.out.cell (i := 1) (by omega)
        clear hv hu hf hg hal hs cf cg lf lg
        go_enter Tryz.func57, Tryz.ntmps57
        go_wp2_with (refine wp_load_whole rfl 29 _ rfl w.heap.size rfl 29 20 _ _ _ HS.out rfl (st_cs _ _ _ _ _) Tryz.underlying29 rfl st_size ?_)
        refine HCk.out.mono ?_
        rintro e w1 ⟨rfl, hB1⟩
        have HB1 := Lib.hid (below_then HA.out hB1)
        have HS1 := Lib.hid (HS.out.of_block (hB1.block _ HS.out.lt))
        have k1' := cell_below hB1 k1
        clear hB1 k1
        go_wp2_with (refine wp_load_whole rfl 29 _ rfl w.heap.size rfl 29 20 _ _ _ HS1.out rfl (st_cs _ _ _ _ _) Tryz.underlying29 rfl st_size ?_)
        refine (HTh.out q (by omega) _ HB1.out).mono ?_
        rintro e w2 ⟨rfl, hB2⟩
        have HB2 := Lib.hid (below_then HB1.out hB2)
        clear hB2
        go_wp2
        go_ret2
        exact ⟨by rw [hE.out, hVv.out]; rfl, HB2.out⟩
  · rw [spE_no hs] at HCk
    have hE : Hid (thE U Bk n f m g k = 70) := by show _ = _; unfold thE; rw [tt_neg hs]; rfl
    have hVv : Hid (thV U Bk n f m g k = 0) := by show _ = _; unfold thV; rw [tt_neg hs]; rfl
    clear hv hu hf hg hal hs
    go_enter Tryz.func57, Tryz.ntmps57
    go_wp2_with (refine wp_load_whole rfl 29 _ rfl w.heap.size rfl 29 20 _ _ _ HS.out rfl (st_cs _ _ _ _ _) Tryz.underlying29 rfl st_size ?_)
    refine HCk.out.mono ?_
    rintro e w1 ⟨rfl, hB1⟩
    have HB1 := Lib.hid (below_then HA.out hB1)
    clear hB1
    go_wp2
    go_ret2
    exact ⟨by rw [hE.out, hVv.out]; rfl, HB1.out⟩
end Go.Proofs.YtmbokpfgnicboaaGreat
