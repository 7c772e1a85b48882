import Derived.Test.YtmbokpfgnicboaaGreatP1
import Derived.Test.YtmbokpfgnicboaaGreatApp
import Derived.Deep.RegionHeld3
import Derived.Deep.DeepCutAuto
import Derived.Deep.CutBlock
set_option linter.unusedVariables false
set_option linter.unusedSimpArgs false
/- The walks of the reference's package of numbers: trim, at, Of, Valid, Same, Order. -/
namespace Go.Proofs.YtmbokpfgnicboaaGreat
open Go.RowKit Go.Hd _root_.Hd

/-- A number, in a block that was not there. -/
def RfPost (m : Nat) (w : World) (e : Ending) (w' : World) : Prop := ∃ v', e = .returned v' ∧ Nt w' v' m ∧ Below w.heap.size w w' ∧ Fresh w.heap.size v'
theorem RfPost.nt {m : Nat} {w : World} {e : Ending} {w' : World} (h : RfPost m w e w') : NtPost m w e w' := by
  obtain ⟨v, h1, h2, h3, _⟩ := h
  exact ⟨v, h1, h2, h3⟩
theorem own_fresh {w : World} {base n : Nat} {e : TypeId} {size : Nat} {v : Value} {xs : List Value} (h : w.ownsRow base e size v n xs) : Fresh base v := by
  have hl := h.lt
  rcases h.2 with ⟨rfl, _⟩ | ⟨g, cap, cur, rfl, _⟩
  · exact ⟨none, 0, 0, rfl, .inl rfl⟩
  · exact ⟨_, n, cap, rfl, .inr ⟨g, 0, rfl, (hl g rfl).1⟩⟩

set_option maxRecDepth 100000 in
/-- The reference's trim: a number of its own. -/
theorem rtrim_any (n : Nat) (f : Nat → Nat) (v : Value) (w : World) (h : Rd w .u32 v n f) (hf : ∀ j, j < n → f j < B) (hn : n ≤ 1000000) :
    Calls Tryz.prog 113 #[v] w (RfPost (val f n) w) := by
  have hR := Lib.hid h
  obtain ⟨A, cap, rfl, h1, h2, h3⟩ := h
  have hl : n ≤ 9223372036854775807 := by unfold maxLen at h2; omega
  have hcap : cap ≤ 9223372036854775807 := by unfold maxLen at h2; omega
  have HF := Lib.hid hf
  have HE : Hid (w.ownsRow w.heap.size 158 1 (.slice none 0 0) 0 []) := World.ownsRow_nil _ _ _ _
  clear hf h2
  rcases A with _ | ad
  · have h0 : n = 0 := by
      rcases Nat.eq_zero_or_pos n with h0 | h0
      · exact h0
      · obtain ⟨b, off, hA, _⟩ := h3 h0
        cases hA
    subst h0
    clear h3
    go_enter Tryz.func113, Tryz.ntmps113
    go_wp2_with fail
    refine wp_loop_rounds 1 ?_
    rw [rounds_succ]
    go_wp2_with (at_builtin; refine wp_app w.heap.size rfl _ _ 25 158 (.int .u32 0) 4 rfl Tryz.underlying25 infoU32 rfl (by decide) _ [] rfl _ 0 (fun _ => .int .u32 0) rfl ⟨none, cap, rfl, Nat.zero_le _, by unfold maxLen; omega, fun h => absurd h (by omega)⟩ (fun _ _ => rfl) HE.out (Nat.le_refl _) (by simp) ?_; intro v1 w1 hown1 hg1; simp only [List.length_nil, Nat.zero_add, List.nil_append] at hown1; have HO := Lib.hid hown1; have HB1 := Lib.hid (below_own (Below.refl w.heap.size w) HE.out hg1 (Nat.le_refl _)); obtain ⟨A1, c1, rfl⟩ := own_slice hown1; clear hown1 hg1)
    go_ret
    exact ⟨_, rfl, ⟨0, fun _ => 0, rd_of_own HO.out, ⟨fun j hj => by omega, fun h => by omega⟩, rfl⟩, HB1.out, own_fresh HO.out⟩
  · have H3 := Lib.hid h3
    clear h3
    go_enter Tryz.func113, Tryz.ntmps113
    go_wp2_with fail
    go_loop [3] (fun i => ∃ k : Nat, k ≤ n ∧ i = .int .i64 k ∧ Hid (∀ j, k ≤ j → j < n → f j = 0)) (fun i => (intOf i).toNat)
    case atStart => exact ⟨n, Nat.le_refl _, rfl, fun j h1 h2 => by omega⟩
    case round =>
      obtain ⟨k, hk, rfl, hz⟩ := hrel
      have HRk := Lib.hid (rd_le hR.out hk (Nat.le_trans hk h1) hcap)
      by_cases hz0 : 0 < k ∧ f (k - 1) = 0
      · obtain ⟨hk0, hz0⟩ := hz0
        obtain ⟨b2, off2, e2, hc⟩ := H3.out (by omega)
        cases e2
        have hci := hc (k - 1) (by omega)
        have HZ := Lib.hid hz0
        rw [hz0] at hci
        clear hc hz0
        go_wp2
        go_round
        case rel => exact ⟨k - 1, by omega, by go_num, fun j h1 h2 => by
          rcases Nat.lt_or_ge j k with h3 | h3
          · have : j = k - 1 := by omega
            rw [this]; exact HZ.out
          · exact hz.out j h3 h2⟩
        case measure => simp [intOf]; omega
      · have HZ := Lib.hid hz0
        have HC : Hid (Canon f k ∧ val f k = val f n) := canon_trim HF.out hk hz.out (fun h1 h2 => HZ.out ⟨h1, h2⟩)
        by_cases hk0 : 0 < k
        · obtain ⟨b2, off2, e2, hc⟩ := H3.out (by omega)
          cases e2
          have hci := hc (k - 1) (by omega)
          have hfi : f (k - 1) < 4294967296 := HF.out (k - 1) (by omega)
          have hf0 : f (k - 1) ≠ 0 := fun h => HZ.out ⟨hk0, h⟩
          clear hc hz0
          go_wp2_with (at_builtin; refine wp_app w.heap.size rfl _ _ 25 158 (.int .u32 0) 4 rfl Tryz.underlying25 infoU32 rfl (by decide) _ [] rfl _ k (fun j => .int .u32 (f j)) rfl HRk.out.toV (fun _ _ => rfl) HE.out (Nat.le_refl _) (by simp; omega) ?_; intro v1 w1 hown1 hg1; simp only [List.length_nil, Nat.zero_add, List.nil_append] at hown1; have HO := Lib.hid hown1; have HB1 := Lib.hid (below_own (Below.refl w.heap.size w) HE.out hg1 (Nat.le_refl _)); obtain ⟨A1, c1, rfl⟩ := own_slice hown1; clear hown1 hg1)
          go_ret
          exact ⟨_, rfl, ⟨k, f, rd_of_own HO.out, HC.out.1, HC.out.2⟩, HB1.out, own_fresh HO.out⟩
        · obtain rfl : k = 0 := by omega
          clear hz0
          go_wp2_with (at_builtin; refine wp_app w.heap.size rfl _ _ 25 158 (.int .u32 0) 4 rfl Tryz.underlying25 infoU32 rfl (by decide) _ [] rfl _ 0 (fun j => .int .u32 (f j)) rfl HRk.out.toV (fun _ _ => rfl) HE.out (Nat.le_refl _) (by simp) ?_; intro v1 w1 hown1 hg1; simp only [List.length_nil, Nat.zero_add, List.nil_append] at hown1; have HO := Lib.hid hown1; have HB1 := Lib.hid (below_own (Below.refl w.heap.size w) HE.out hg1 (Nat.le_refl _)); obtain ⟨A1, c1, rfl⟩ := own_slice hown1; clear hown1 hg1)
          go_ret
          exact ⟨_, rfl, ⟨0, f, rd_of_own HO.out, HC.out.1, HC.out.2⟩, HB1.out, own_fresh HO.out⟩

set_option maxRecDepth 100000 in
/-- A digit, 0 beyond the end. -/
theorem rat_any (n : Nat) (f : Nat → Nat) (i : Nat) (v : Value) (w : World) (h : Rd w .u32 v n f) (hf : ∀ j, j < n → f j < B) :
    Calls Tryz.prog 129 #[v, .int .i64 i] w fun e w' => e = .returned (.int .u64 (dig f n i : Nat)) ∧ w = w' := by
  obtain ⟨A, cap, rfl, h1, h2, h3⟩ := h
  have hl : n ≤ 9223372036854775807 := by unfold maxLen at h2; omega
  clear h2
  by_cases hi : i < n
  · obtain ⟨b, off, rfl, hc⟩ := h3 (by omega)
    have hci := hc i hi
    have hfi : f i < 4294967296 := hf i hi
    clear hc hf h3
    rw [dig_of_lt hi]
    go_enter Tryz.func129, Tryz.ntmps129
    go_wp2
    go_ret
    exact ⟨rfl, rfl⟩
  · rw [dig_of_ge (by omega)]
    clear h3 hf
    go_enter Tryz.func129, Tryz.ntmps129
    go_wp2
    go_ret
    exact ⟨rfl, rfl⟩

/-- Two digits. -/
def duo (x y : Nat) (j : Nat) : Nat := if j = 0 then x else y
theorem duo_val (x y : Nat) : val (duo x y) 2 = x + y * B := by simp [val, duo]
theorem duo_lt {x y : Nat} (hx : x < B) (hy : y < B) (j : Nat) : duo x y j < B := by unfold duo; split <;> assumption
theorem duo_rd (w : World) (x y : Nat) (t : TypeId) : Rd (w.alloc (.cells #[.int .u32 x, .int .u32 y] t)) .u32 (.slice (some ⟨w.heap.size, 0, none⟩) 2 2) 2 (duo x y) := by
  obtain ⟨A, c, a1, a2, a3, a4⟩ := rdV_two w (.int .u32 x) (.int .u32 y) t
  refine ⟨A, c, a1, a2, a3, fun h => ?_⟩
  obtain ⟨b, off, b1, b2⟩ := a4 h
  refine ⟨b, off, b1, fun j hj => ?_⟩
  rw [b2 j hj]
  unfold duo
  by_cases h : j = 0
  · subst h; rfl
  · rw [if_neg h]; exact congrArg some (if_neg h)
theorem duo_of (x : Nat) : x % 4294967296 + x / 4294967296 * B = x := by unfold B; omega
theorem duo_b {x : Nat} (h : x < 18446744073709551616) : x % 4294967296 < B ∧ x / 4294967296 < B := by unfold B; omega

set_option maxRecDepth 100000 in
/-- A number of 64 bits as digits. -/
theorem rof_any (x : Nat) (w : World) (hx : x < 18446744073709551616) : Calls Tryz.prog 60 #[.int .u64 x] w (NtPost x w) := by
  have HX := Lib.hid hx
  have HT := Lib.hid (rtrim_any 2 (duo (x % 4294967296) (x / 4294967296)) _ _ (duo_rd w _ _ 158) (fun j _ => duo_lt (duo_b hx).1 (duo_b hx).2 j) (by omega))
  rw [duo_val, duo_of] at HT
  have hd : x / 4294967296 < 4294967296 := (duo_b hx).2
  have e2 : IntKind.u32.wrap ((x : Int) / 4294967296) = ((x / 4294967296 : Nat) : Int) := by rw [IntKind.wrap_u32]; omega
  clear hx
  have hb := (Below.refl _ w).alloc (Nat.le_refl _) (.cells #[.int .u32 ((x % 4294967296 : Nat) : Int), .int .u32 ((x / 4294967296 : Nat) : Int)] 158)
  rw [show ((x % 4294967296 : Nat) : Int) = (x : Int) % 4294967296 from rfl, show ((x / 4294967296 : Nat) : Int) = (x : Int) / 4294967296 from rfl] at HT hb
  have HB := Lib.hid hb
  clear hb
  go_enter Tryz.func60, Tryz.ntmps60
  go_wp2_with fail
  refine HT.out.mono ?_
  rintro e w1 ⟨v1, rfl, hN, hB, _⟩
  have HN := Lib.hid hN
  have HB1 := Lib.hid (below_then HB.out hB)
  clear hN hB
  go_wp2
  go_ret
  exact ⟨v1, rfl, HN.out, HB1.out⟩

set_option maxRecDepth 100000 in
/-- Whether a number is valid. -/
theorem rvalid_any (n : Nat) (f : Nat → Nat) (v : Value) (w : World) (h : Rd w .u32 v n f) (hf : ∀ j, j < n → f j < B) :
    Calls Tryz.prog 127 #[v] w fun e w' => e = .returned (.bool (!bad n f)) ∧ w = w' := by
  obtain ⟨A, cap, rfl, h1, h2, h3⟩ := h
  have hl : n ≤ 9223372036854775807 := by unfold maxLen at h2; omega
  clear h2
  rcases Nat.eq_zero_or_pos n with h0 | h0
  · subst h0
    clear h3 hf
    have e : bad 0 f = false := by simp [bad]
    rw [e]
    go_enter Tryz.func127, Tryz.ntmps127
    go_wp2
    go_ret
    exact ⟨rfl, rfl⟩
  · obtain ⟨b, off, rfl, hc⟩ := h3 h0
    have hci := hc (n - 1) (by omega)
    have hfi : f (n - 1) < 4294967296 := hf (n - 1) (by omega)
    have hcast : ((n : Int) - 1).toNat = n - 1 := by omega
    have Hn0 : Hid (((n : Int) == 0) = false) := beq_eq_false_iff_ne.2 (by omega)
    clear hc h3 hf
    by_cases h16 : n ≤ 16
    · by_cases hz : f (n - 1) = 0
      · have e : bad n f = true := by simp [bad, hz]; omega
        rw [e]
        rw [hz] at hci
        clear hz
        go_enter Tryz.func127, Tryz.ntmps127
        go_wp2
        go_ret
        refine ⟨?_, rfl⟩
        rw [Hn0.out]; rfl
      · have e : bad n f = false := by simp [bad, hz]; omega
        rw [e]
        have Hf0 : Hid ((((f (n - 1) : Nat) : Int) != 0) = true) := bne_iff_ne.2 (by omega)
        go_enter Tryz.func127, Tryz.ntmps127
        go_wp2
        go_ret
        refine ⟨?_, rfl⟩
        rw [Hn0.out, Hf0.out]; rfl
    · have e : bad n f = true := by simp [bad]; omega
      rw [e]
      go_enter Tryz.func127, Tryz.ntmps127
      go_wp2
      go_ret
      exact ⟨rfl, rfl⟩

set_option maxRecDepth 100000 in
/-- Whether two numbers have the same digits. -/
theorem rsame_any (n m : Nat) (f g : Nat → Nat) (v u : Value) (w : World) (hv : Rd w .u32 v n f) (hu : Rd w .u32 u m g) (hf : ∀ j, j < n → f j < B) (hg : ∀ j, j < m → g j < B) :
    Calls Tryz.prog 95 #[v, u] w fun e w' => e = .returned (.bool (tt (n = m ∧ ∀ j, j < n → f j = g j))) ∧ Below w.heap.size w w' := by
  have hl := hv.len_le
  have hl2 := hu.len_le
  obtain ⟨A, cap, rfl, h1, h2, h3⟩ := hv
  obtain ⟨A2, cap2, rfl, k1, k2, k3⟩ := hu
  have HF := Lib.hid hf
  have HG := Lib.hid hg
  have H3 := Lib.hid h3
  have K3 := Lib.hid k3
  clear h2 k2 hf hg h3 k3
  by_cases hnm : n = m
  · subst hnm
    go_enter Tryz.func95, Tryz.ntmps95
    go_wp2_with fail
    go_loopw [5] (fun i wr => ∃ k : Nat, k ≤ n ∧ i = .int .i64 k ∧ Hid (∀ j, j < k → f j = g j) ∧ Drawn w wr) (fun i _ => n - (intOf i).toNat)
    case atStart => exact ⟨0, Nat.zero_le _, rfl, fun j hj => by omega, Drawn.refl _⟩
    case round =>
      obtain ⟨k, hk, rfl, he, hd⟩ := hrel
      have HD := Lib.hid hd
      by_cases hlt : k < n
      · obtain ⟨b, off, rfl, hc⟩ := H3.out (by omega)
        obtain ⟨b2, off2, rfl, hc2⟩ := K3.out (by omega)
        have c1 : wr.cell? ⟨b, off + k, none⟩ = some (.int .u32 (f k)) := cell_below hd.below (hc k hlt)
        have c2 : wr.cell? ⟨b2, off2 + k, none⟩ = some (.int .u32 (g k)) := cell_below hd.below (hc2 k hlt)
        have l1 : f k < 4294967296 := HF.out k hlt
        have l2 : g k < 4294967296 := HG.out k hlt
        clear hc hc2 hd
        by_cases hfg : f k = g k
        · have HE := Lib.hid hfg
          have hb : (((f k : Nat) : Int) != (g k : Nat)) = false := by rw [hfg]; simp
          clear hfg
          go_wp2_with fail
          go_region
          go_wp2
          go_roundw
          case rel => exact ⟨k + 1, by omega, by go_num, fun j hj => by
            rcases Nat.lt_or_ge j k with h | h
            · exact he.out j h
            · obtain rfl : j = k := by omega
              exact HE.out, HD.out.drew⟩
          case measure => simp [intOf]; omega
        · have HT : Hid (tt (n = n ∧ ∀ j, j < n → f j = g j) = false) := tt_neg (fun h => hfg (h.2 k hlt))
          have hb : (((f k : Nat) : Int) != (g k : Nat)) = true := bne_iff_ne.2 (by omega)
          clear hfg
          go_wp2_with fail
          go_region
          go_wp2
          go_ret
          exact ⟨by rw [HT.out]; rfl, HD.out.drew.below⟩
      · obtain rfl : k = n := by omega
        clear hd
        go_wp2
        go_ret
        exact ⟨by rw [tt_pos ⟨trivial, he.out⟩]; rfl, HD.out.below⟩
  · have HT : Hid (tt (n = m ∧ ∀ j, j < n → f j = g j) = false) := tt_neg (fun h => hnm h.1)
    go_enter Tryz.func95, Tryz.ntmps95
    go_wp2
    go_ret
    exact ⟨by rw [HT.out]; rfl, Below.refl _ _⟩

theorem val_digs {n m : Nat} {f g : Nat → Nat} (hf : ∀ j, j < n → f j < B) (hg : ∀ j, j < m → g j < B) {k : Nat} (hk : k < max n m) (he : ∀ j, k < j → j < max n m → dig f n j = dig g m j) (hlt : dig f n k < dig g m k) : val f n < val g m := by
  have := val_lt_of (f := dig f n) (g := dig g m) hk (fun j _ => dig_lt hf j) he hlt
  rw [val_dig (Nat.le_max_left _ _), val_dig (Nat.le_max_right _ _)] at this
  exact this
theorem val_digs_eq {n m : Nat} {f g : Nat → Nat} (he : ∀ j, j < max n m → dig f n j = dig g m j) : val f n = val g m := by
  have := val_congr (n := max n m) he
  rw [val_dig (Nat.le_max_left _ _), val_dig (Nat.le_max_right _ _)] at this
  exact this

set_option maxRecDepth 100000 in
/-- The order of two numbers. -/
theorem rorder_any (n m : Nat) (f g : Nat → Nat) (v u : Value) (w : World) (hv : Rd w .u32 v n f) (hu : Rd w .u32 u m g) (hf : ∀ j, j < n → f j < B) (hg : ∀ j, j < m → g j < B) :
    Calls Tryz.prog 81 #[v, u] w fun e w' => e = .returned (.int .i64 (ord (val f n) (val g m))) ∧ w = w' := by
  have hl := hv.len_le
  have hl2 := hu.len_le
  have HAf := Lib.hid (fun i => rat_any n f i v w hv hf)
  have HAg := Lib.hid (fun i => rat_any m g i u w hu hg)
  obtain ⟨A, cap, rfl, h1, h2, h3⟩ := hv
  obtain ⟨A2, cap2, rfl, k1, k2, k3⟩ := hu
  have HF := Lib.hid hf
  have HG := Lib.hid hg
  have hmx : max (n : Int) (m : Int) = ((max n m : Nat) : Int) := by omega
  have hM : max n m ≤ 9223372036854775807 := by omega
  have HL1 := Lib.hid (fun k he hk hlt => val_digs (k := k) hf hg hk he hlt)
  have HL2 := Lib.hid (fun k he hk hlt => val_digs (k := k) hg hf hk he hlt)
  have HL3 := Lib.hid (val_digs_eq (f := f) (g := g) (n := n) (m := m))
  rw [Nat.max_comm m n] at HL2
  generalize max n m = M at *
  clear h2 k2 hf hg h3 k3
  go_enter Tryz.func81, Tryz.ntmps81
  go_wp2_with fail
  go_loopw [5] (fun i wr => ∃ k : Nat, k ≤ M ∧ i = .int .i64 ((k : Int) - 1) ∧ Hid (∀ j, k ≤ j → j < M → dig f n j = dig g m j) ∧ wr = w) (fun i _ => (intOf i + 1).toNat)
  case atStart => exact ⟨M, Nat.le_refl _, rfl, fun j h1 h2 => by omega, rfl⟩
  case round =>
    obtain ⟨k, hk, rfl, he, rfl⟩ := hrel
    rcases k with _ | k
    · have e : val f n = val g m := HL3.out (fun j hj => he.out j (Nat.zero_le _) hj)
      have HO : Hid (ord (val f n) (val g m) = 0) := by show _ = _; unfold ord; rw [if_neg (by omega), if_neg (by omega)]
      clear e
      go_wp2
      go_ret
      exact ⟨by rw [HO.out]; rfl, rfl⟩
    · have ek : ((k + 1 : Nat) : Int) - 1 = (k : Int) := by omega
      rw [ek]
      have HA1 := Lib.hid (HAf.out k)
      have HA2 := Lib.hid (HAg.out k)
      have hd1 : dig f n k < 4294967296 := dig_lt HF.out k
      have hd2 : dig g m k < 4294967296 := dig_lt HG.out k
      have HD := Lib.hid (fun h => HL1.out k (fun j h1 h2 => he.out j (by omega) h2) (by omega) h)
      have HD2 := Lib.hid (fun h => HL2.out k (fun j h1 h2 => (he.out j (by omega) h2).symm) (by omega) h)
      have HE := Lib.hid (fun (h : dig f n k = dig g m k) => (fun j h1 h2 => if e : j = k then e ▸ h else he.out j (by omega) h2 : ∀ j, k ≤ j → j < M → dig f n j = dig g m j))
      generalize dig f n k = x at *
      generalize dig g m k = y at *
      clear ek he
      by_cases hlt : x < y
      · have HO : Hid (ord (val f n) (val g m) = -1) := by show _ = _; unfold ord; rw [if_pos (HD.out hlt)]
        go_wp2_with fail
        refine HA1.out.mono ?_
        rintro e wm ⟨rfl, rfl⟩
        go_wp2_with fail
        refine HA2.out.mono ?_
        rintro e wm2 ⟨rfl, rfl⟩
        go_wp2
        go_ret
        exact ⟨by rw [HO.out]; rfl, rfl⟩
      · go_wp2_with fail
        refine HA1.out.mono ?_
        rintro e wm ⟨rfl, rfl⟩
        go_wp2_with fail
        refine HA2.out.mono ?_
        rintro e wm2 ⟨rfl, rfl⟩
        go_wp2_with fail
        refine HA1.out.mono ?_
        rintro e wm ⟨rfl, rfl⟩
        go_wp2_with fail
        refine HA2.out.mono ?_
        rintro e wm2 ⟨rfl, rfl⟩
        by_cases hgt : y < x
        · have HO : Hid (ord (val f n) (val g m) = 1) := by
            have := HD2.out hgt
            show _ = _; unfold ord; rw [if_neg (by omega), if_pos this]
          go_wp2
          go_ret
          exact ⟨by rw [HO.out]; rfl, rfl⟩
        · go_wp2
          go_roundw
          case rel => exact ⟨k, by omega, by go_num, HE.out (by omega), trivial⟩
          case measure => simp [intOf]
end Go.Proofs.YtmbokpfgnicboaaGreat

/- The walks of the reference's package of numbers: Plus, Minus. -/
namespace Go.Proofs.YtmbokpfgnicboaaGreat
open Go.RowKit Go.Hd _root_.Hd

/-- What a loop that adds digit by digit has done. -/
def AddAt (a b : Nat → Nat) (k c : Nat) (o : Nat → Nat) : Prop := c ≤ 1 ∧ (∀ j, j < k → o j < B) ∧ val o k + c * B ^ k = val a k + val b k
theorem AddAt.zero (a b o : Nat → Nat) : AddAt a b 0 0 o := ⟨by omega, fun j hj => by omega, by simp [val]⟩
theorem AddAt.next {a b : Nat → Nat} {k c : Nat} {o : Nat → Nat} (h : AddAt a b k c o) (ha : a k < B) (hb : b k < B) : AddAt a b (k + 1) ((a k + b k + c) / B) (upd o k ((a k + b k + c) % B)) := by
  obtain ⟨h1, h2, h3⟩ := h
  refine ⟨?_, fun j hj => ?_, ?_⟩
  · have : (a k + b k + c) / B < 2 := Nat.div_lt_of_lt_mul (by omega)
    omega
  · unfold upd
    split
    · exact Nat.mod_lt _ B_pos
    · exact h2 j (by omega)
  · rw [val_upd_next, val_succ a, val_succ b]
    exact add_round k h3 rfl rfl
theorem own_snoc {w : World} {base k : Nat} {e : TypeId} {v : Value} {o : Nat → Nat} {d : Nat} (h : w.ownsRow base e 1 v (k + 1) (((List.range k).map fun j => Value.int .u32 (o j : Nat)) ++ [.int .u32 (d : Nat)])) : w.ownsRow base e 1 v (k + 1) ((List.range (k + 1)).map fun j => Value.int .u32 (upd o k d j : Nat)) := by
  rw [map_range_snoc] at h
  refine Eq.mp ?_ h
  congr 1
  refine List.map_congr_left fun j hj => ?_
  unfold upd
  split <;> rfl

set_option maxRecDepth 100000 in
/-- A sum. -/
theorem rplus_any (n m : Nat) (f g : Nat → Nat) (v u : Value) (w : World) (hv : Rd w .u32 v n f) (hu : Rd w .u32 u m g) (hf : ∀ j, j < n → f j < B) (hg : ∀ j, j < m → g j < B) (hn : n ≤ 100000) (hm : m ≤ 100000) :
    Calls Tryz.prog 92 #[v, u] w (RfPost (val f n + val g m) w) := by
  have HAf := Lib.hid (fun i W (h : Below w.heap.size w W) => rat_any n f i v W (hv.below h) hf)
  have HAg := Lib.hid (fun i W (h : Below w.heap.size w W) => rat_any m g i u W (hu.below h) hg)
  obtain ⟨A, cap, rfl, h1, h2, h3⟩ := hv
  obtain ⟨A2, cap2, rfl, k1, k2, k3⟩ := hu
  have HF := Lib.hid hf
  have HG := Lib.hid hg
  have hmx : max (n : Int) (m : Int) = ((max n m : Nat) : Int) := by omega
  have hM : max n m ≤ 100000 := by omega
  have HVf : Hid (val (dig f n) (max n m + 1) = val f n) := val_dig (by omega)
  have HVg : Hid (val (dig g m) (max n m + 1) = val g m) := val_dig (by omega)
  have HLf : Hid (val f n < B ^ max n m) := Nat.lt_of_lt_of_le (val_lt hf) (Nat.pow_le_pow_right B_pos (by omega))
  have HLg : Hid (val g m < B ^ max n m) := Nat.lt_of_lt_of_le (val_lt hg) (Nat.pow_le_pow_right B_pos (by omega))
  have HE : Hid (w.ownsRow w.heap.size 158 1 (.slice none 0 0) 0 []) := World.ownsRow_nil _ _ _ _
  generalize max n m = M at *
  clear h2 k2 hf hg h3 k3
  go_enter Tryz.func92, Tryz.ntmps92
  go_wp2_with fail
  go_loopw [5, 6, 7] (fun s5 s6 s7 wr => ∃ (k c : Nat) (o : Nat → Nat), k ≤ M + 1 ∧ s7 = .int .i64 k ∧ s6 = .int .u64 c ∧ Hid (wr.ownsRow w.heap.size 158 1 s5 k ((List.range k).map fun j => .int .u32 (o j : Nat))) ∧ Hid (AddAt (dig f n) (dig g m) k c o) ∧ Below w.heap.size w wr) (fun _ _ s7 _ => M + 1 - (intOf s7).toNat)
  case atStart => exact ⟨0, 0, fun _ => 0, Nat.zero_le _, rfl, rfl, HE.out, AddAt.zero _ _ _, Below.refl _ _⟩
  case round =>
    obtain ⟨k, c, o, hk, rfl, rfl, hown, hadd, hbel⟩ := hrel
    obtain ⟨W0, rfl⟩ : ∃ W0 : World, W0 = wr := ⟨_, rfl⟩
    obtain ⟨A5, c5, rfl⟩ := own_slice hown.out
    have HBel := Lib.hid hbel
    have hsz := hbel.size
    by_cases hlt : k ≤ M
    · have HA1 := Lib.hid (HAf.out k W0 hbel)
      have HA2 := Lib.hid (HAg.out k W0 hbel)
      have hd1 : dig f n k < 4294967296 := dig_lt HF.out k
      have hd2 : dig g m k < 4294967296 := dig_lt HG.out k
      have hc1 : c ≤ 1 := hadd.out.1
      have HN := Lib.hid (hadd.out.next hd1 hd2)
      generalize dig f n k = x at *
      generalize dig g m k = y at *
      clear hbel
      go_wp2_with fail
      refine HA1.out.mono ?_
      rintro e wm ⟨rfl, rfl⟩
      go_wp2_with fail
      refine HA2.out.mono ?_
      rintro e wm2 ⟨rfl, rfl⟩
      have HO4 := Lib.hid (own_below hown.out ((Below.refl W0.heap.size W0).alloc (Nat.le_refl _) (.cells #[.int .u32 (((x + y + c) % B : Nat) : Int)] 158)))
      go_wp2_with (at_builtin; refine wp_app w.heap.size rfl _ _ 25 158 (.int .u32 0) 4 rfl Tryz.underlying25 infoU32 rfl (by decide) (.slice A5 k c5) ((List.range k).map fun j => .int .u32 (o j : Nat)) rfl _ 1 (fun _ => .int .u32 (((x + y + c) % B : Nat) : Int)) rfl (rdV_one _ _ _) (fun _ _ => rfl) (by rw [List.length_map, List.length_range]; exact HO4.out) (by simp; omega) (by simp; omega) ?_; intro v5 w5 hown5 hg5; have HO5 := Lib.hid hown5; have HG5 := Lib.hid hg5; clear hown5 hg5)
      go_roundw
      case rel =>
        refine ⟨k + 1, (x + y + c) / B, _, by omega, by go_num, rfl, own_snoc (o := o) (d := (x + y + c) % B) (by have h := HO5.out; rw [List.length_map, List.length_range] at h; exact h), HN.out, below_own (HBel.out.alloc hsz _) HO4.out HG5.out (by simp; omega)⟩
      case measure => simp [intOf]; omega
    · obtain rfl : k = M + 1 := by omega
      have hc0 : c = 0 := by
        have h3 := hadd.out.2.2
        rw [HVf.out, HVg.out] at h3
        rcases Nat.eq_zero_or_pos c with h | h
        · exact h
        · have h4 : B ^ (M + 1) ≤ c * B ^ (M + 1) := Nat.le_mul_of_pos_left _ h
          have h5 : 2 * B ^ M ≤ B ^ (M + 1) := by rw [Nat.pow_succ, Nat.mul_comm]; exact Nat.mul_le_mul_left _ (by unfold B; omega)
          have := HLf.out
          have := HLg.out
          omega
      have hv := hadd.out.2.2
      rw [HVf.out, HVg.out, hc0, Nat.zero_mul, Nat.add_zero] at hv
      have HT := Lib.hid (rtrim_any (M + 1) o _ _ (rd_of_own hown.out) hadd.out.2.1 (by omega))
      rw [hv] at HT
      clear hv hbel
      go_wp2_with fail
      refine HT.out.mono ?_
      rintro e w1 ⟨v1, rfl, hN, hB, hFr⟩
      have HN := Lib.hid hN
      have HB1 := Lib.hid (HBel.out.trans (hB.mono hsz))
      have HFr := Lib.hid (hFr.mono hsz)
      clear hN hB hFr
      go_wp2
      go_ret
      exact ⟨v1, rfl, HN.out, HB1.out, HFr.out⟩

theorem sub_digit {x y c : Nat} (hx : x < 4294967296) (hy : y < 4294967296) (hc : c ≤ 1) : (4294967296 + x - y - c) % 4294967296 + y + c = x + (1 - (4294967296 + x - y - c) / 4294967296) * 4294967296 := by
  by_cases h : y + c ≤ x
  · have : (4294967296 + x - y - c) / 4294967296 = 1 := by omega
    omega
  · have : (4294967296 + x - y - c) / 4294967296 = 0 := by omega
    omega
/-- What a loop that takes away digit by digit has done. -/
def SubAt (a b : Nat → Nat) (k c : Nat) (o : Nat → Nat) : Prop := c ≤ 1 ∧ (∀ j, j < k → o j < B) ∧ val o k + val b k = val a k + c * B ^ k
theorem SubAt.zero (a b o : Nat → Nat) : SubAt a b 0 0 o := ⟨by omega, fun j hj => by omega, by simp [val]⟩
theorem SubAt.next {a b : Nat → Nat} {k c : Nat} {o : Nat → Nat} (h : SubAt a b k c o) (ha : a k < B) (hb : b k < B) : SubAt a b (k + 1) (1 - (B + a k - b k - c) / B) (upd o k ((B + a k - b k - c) % B)) := by
  obtain ⟨h1, h2, h3⟩ := h
  refine ⟨Nat.sub_le 1 _, fun j hj => ?_, ?_⟩
  · unfold upd
    split
    · exact Nat.mod_lt _ B_pos
    · exact h2 j (by omega)
  · rw [val_upd_next, val_succ a, val_succ b]
    exact sub_round k h3 (sub_digit ha hb h1)

set_option maxRecDepth 100000 in
/-- A difference. -/
theorem rminus_any (n m : Nat) (f g : Nat → Nat) (v u : Value) (w : World) (hv : Rd w .u32 v n f) (hu : Rd w .u32 u m g) (hf : ∀ j, j < n → f j < B) (hg : ∀ j, j < m → g j < B) (hn : n ≤ 100000) (hle : val g m ≤ val f n) (hmn : m ≤ n) :
    Calls Tryz.prog 162 #[v, u] w (RfPost (val f n - val g m) w) := by
  have HAf := Lib.hid (fun i W (h : Below w.heap.size w W) => rat_any n f i v W (hv.below h) hf)
  have HAg := Lib.hid (fun i W (h : Below w.heap.size w W) => rat_any m g i u W (hu.below h) hg)
  obtain ⟨A, cap, rfl, h1, h2, h3⟩ := hv
  obtain ⟨A2, cap2, rfl, k1, k2, k3⟩ := hu
  have HF := Lib.hid hf
  have HG := Lib.hid hg
  have HVf : Hid (val (dig f n) n = val f n) := val_dig (Nat.le_refl _)
  have HVg : Hid (val (dig g m) n = val g m) := val_dig hmn
  have HLe := Lib.hid hle
  have HLf : Hid (val f n < B ^ n) := val_lt hf
  have HE : Hid (w.ownsRow w.heap.size 158 1 (.slice none 0 0) 0 []) := World.ownsRow_nil _ _ _ _
  clear h2 k2 hf hg h3 k3 hle
  go_enter Tryz.func162, Tryz.ntmps162
  go_wp2_with fail
  go_loopw [5, 6, 7] (fun s5 s6 s7 wr => ∃ (k c : Nat) (o : Nat → Nat), k ≤ n ∧ s7 = .int .i64 k ∧ s6 = .int .u64 c ∧ Hid (wr.ownsRow w.heap.size 158 1 s5 k ((List.range k).map fun j => .int .u32 (o j : Nat))) ∧ Hid (SubAt (dig f n) (dig g m) k c o) ∧ Below w.heap.size w wr) (fun _ _ s7 _ => n - (intOf s7).toNat)
  case atStart => exact ⟨0, 0, fun _ => 0, Nat.zero_le _, rfl, rfl, HE.out, SubAt.zero _ _ _, Below.refl _ _⟩
  case round =>
    obtain ⟨k, c, o, hk, rfl, rfl, hown, hadd, hbel⟩ := hrel
    obtain ⟨W0, rfl⟩ : ∃ W0 : World, W0 = wr := ⟨_, rfl⟩
    obtain ⟨A5, c5, rfl⟩ := own_slice hown.out
    have HBel := Lib.hid hbel
    have hsz := hbel.size
    by_cases hlt : k < n
    · have HA1 := Lib.hid (HAf.out k W0 hbel)
      have HA2 := Lib.hid (HAg.out k W0 hbel)
      have hd1 : dig f n k < 4294967296 := dig_lt HF.out k
      have hd2 : dig g m k < 4294967296 := dig_lt HG.out k
      have hc1 : c ≤ 1 := hadd.out.1
      have HN := Lib.hid (hadd.out.next hd1 hd2)
      generalize dig f n k = x at *
      generalize dig g m k = y at *
      obtain ⟨z, hz⟩ : ∃ z, z = B + x - y - c := ⟨_, rfl⟩
      rw [← hz] at HN
      have hz1 : ((4294967296 : Int) + x - y - c) = (z : Nat) := by rw [hz]; unfold B; omega
      have hz2 : z < 8589934592 := by rw [hz]; unfold B; omega
      clear hbel hz
      go_wp2_with fail
      refine HA1.out.mono ?_
      rintro e wm ⟨rfl, rfl⟩
      go_wp2_with fail
      refine HA2.out.mono ?_
      rintro e wm2 ⟨rfl, rfl⟩
      have HO4 := Lib.hid (own_below hown.out ((Below.refl W0.heap.size W0).alloc (Nat.le_refl _) (.cells #[.int .u32 ((z % B : Nat) : Int)] 158)))
      go_wp2_with (at_builtin; refine wp_app w.heap.size rfl _ _ 25 158 (.int .u32 0) 4 rfl Tryz.underlying25 infoU32 rfl (by decide) (.slice A5 k c5) ((List.range k).map fun j => .int .u32 (o j : Nat)) rfl _ 1 (fun _ => .int .u32 ((z % B : Nat) : Int)) rfl (rdV_one _ _ _) (fun _ _ => rfl) (by rw [List.length_map, List.length_range]; exact HO4.out) (by simp; omega) (by simp; omega) ?_; intro v5 w5 hown5 hg5; have HO5 := Lib.hid hown5; have HG5 := Lib.hid hg5; clear hown5 hg5)
      go_roundw
      case rel =>
        refine ⟨k + 1, 1 - z / B, _, by omega, by go_num, ?_, own_snoc (o := o) (d := z % B) (by have h := HO5.out; rw [List.length_map, List.length_range] at h; exact h), HN.out, below_own (HBel.out.alloc hsz _) HO4.out HG5.out (by simp; omega)⟩
        congr 1
        unfold B
        omega
      case measure => simp [intOf]; omega
    · obtain rfl : k = n := by omega
      have hc0 : c = 0 := by
        have h3 := hadd.out.2.2
        have h4 := val_lt hadd.out.2.1
        rw [HVf.out, HVg.out] at h3
        have h5 := HLe.out
        rcases Nat.eq_zero_or_pos c with h | h
        · exact h
        · have h6 : B ^ k ≤ c * B ^ k := Nat.le_mul_of_pos_left _ h
          omega
      have hv := hadd.out.2.2
      rw [HVf.out, HVg.out, hc0, Nat.zero_mul, Nat.add_zero] at hv
      have HT := Lib.hid (rtrim_any k o _ _ (rd_of_own hown.out) hadd.out.2.1 (by omega))
      rw [show val o k = val f k - val g m by omega] at HT
      clear hv hbel
      go_wp2_with fail
      refine HT.out.mono ?_
      rintro e w1 ⟨v1, rfl, hN, hB, hFr⟩
      have HN := Lib.hid hN
      have HB1 := Lib.hid (HBel.out.trans (hB.mono hsz))
      have HFr := Lib.hid (hFr.mono hsz)
      clear hN hB hFr
      go_wp2
      go_ret
      exact ⟨v1, rfl, HN.out, HB1.out, HFr.out⟩
end Go.Proofs.YtmbokpfgnicboaaGreat

/- The walks of the reference's package of numbers: Times, bit. -/
namespace Go.Proofs.YtmbokpfgnicboaaGreat
open Go.RowKit Go.Hd _root_.Hd

theorem mul_wraps {x y e c : Nat} (hx : x < 4294967296) (hy : y < 4294967296) (he : e < 4294967296) (hc : c < 4294967296) :
    IntKind.u64.wrap ((x : Int) * (y : Int)) = ((x * y : Nat) : Int) ∧ IntKind.u64.wrap ((e : Int) + ((x * y : Nat) : Int)) = ((e + x * y : Nat) : Int) ∧ IntKind.u64.wrap (((e + x * y : Nat) : Int) + (c : Int)) = ((x * y + e + c : Nat) : Int) ∧ IntKind.u64.wrap (e : Int) = (e : Int) := by
  have hfit : x * y + e + c < B * B := mul_fits hx hy he hc
  have h2 : B * B = 18446744073709551616 := by decide
  rw [h2] at hfit
  rw [← Int.natCast_mul]
  generalize x * y = p at *
  simp only [IntKind.wrap_u64]
  omega

set_option maxRecDepth 100000 in
set_option maxHeartbeats 1000000 in
/-- A product. -/
theorem rtimes_any (n m : Nat) (f g : Nat → Nat) (v u : Value) (w : World) (hv : Rd w .u32 v n f) (hu : Rd w .u32 u m g) (hf : ∀ j, j < n → f j < B) (hg : ∀ j, j < m → g j < B) (hn : n ≤ 100000) (hm : m ≤ 100000) :
    Calls Tryz.prog 135 #[v, u] w (NtPost (val f n * val g m) w) := by
  have HAf := Lib.hid (fun i W (h : Below w.heap.size w W) => rat_any n f i v W (hv.below h) hf)
  have HAg := Lib.hid (fun i W (h : Below w.heap.size w W) => rat_any m g i u W (hu.below h) hg)
  obtain ⟨A, cap, rfl, hv⟩ := hv
  obtain ⟨A2, cap2, rfl, hu⟩ := hu
  clear hv hu
  have HF := Lib.hid hf
  have HG := Lib.hid hg
  clear hf hg
  obtain ⟨N, hN⟩ : ∃ N, N = n + m := ⟨_, rfl⟩
  have hmk := run_make_row' (P := Tryz.prog) 25 158 (.int .u32 0) 4 Tryz.underlying25 infoU32 rfl .i64 .i64 N (by omega) (by omega)
  have ec : (N : Int) = (n : Int) + m := by omega
  rw [ec] at hmk
  have HN := Lib.hid hN
  clear ec hN
  go_enter Tryz.func135, Tryz.ntmps135
  go_wp2
  go_loopw [6] (fun i wr => ∃ (k : Nat) (o : Nat → Nat), k ≤ n ∧ i = .int .i64 k ∧ Hid (∀ j, j < N → o j < B) ∧
      wr.rowIs w.heap.size 158 N (fun j => .int .u32 (o j)) ∧ Hid (val o (k + m) = val f k * val g m) ∧ Hid (∀ j, k + m ≤ j → o j = 0) ∧ Below w.heap.size w wr)
    (fun i _ => n - (intOf i).toNat)
  case atStart =>
    exact ⟨0, fun _ => 0, Nat.zero_le _, rfl, fun j _ => B_pos, World.rowIs_made _ _ _ _, by show val _ _ = 0 * val g m; rw [val_zeros (fun _ _ => rfl)]; omega, fun _ _ => rfl, (Below.refl _ _).alloc (Nat.le_refl _) _⟩
  case round =>
    obtain ⟨k, o, hk, rfl, hoB, hrow, hval, hz, hbel⟩ := hrel
    obtain ⟨wo, rfl⟩ : ∃ wo : World, wo = wr := ⟨_, rfl⟩
    have HR := Lib.hid hrow
    have HBel := Lib.hid hbel
    clear hrow
    by_cases hlt : k < n
    · have HFk : f k < 4294967296 := HF.out k hlt
      clear hbel
      go_wp2
      go_loopw [7, 8] (fun c i wr => ∃ (j c0 : Nat) (p : Nat → Nat), j ≤ m ∧ c0 < 4294967296 ∧ i = .int .i64 j ∧ c = .int .u64 c0 ∧ Hid (∀ t, t < N → p t < B) ∧
          wr.rowIs w.heap.size 158 N (fun t => .int .u32 (p t)) ∧ Hid (val p (k + j) + c0 * B ^ (k + j) = val o (k + j) + f k * val g j * B ^ k) ∧ Hid (∀ t, k + j ≤ t → p t = o t) ∧ Below w.heap.size w wr)
        (fun _ i _ => m - (intOf i).toNat)
      case atStart => exact ⟨0, 0, o, Nat.zero_le _, by omega, rfl, rfl, hoB, HR.out, by show _ = _; simp [val], fun _ _ => rfl, HBel.out⟩
      case round =>
        obtain ⟨j, c0, p, hj, hc0, rfl, rfl, hpB, hrow, hpv, hpo, hbel⟩ := hrel
        obtain ⟨W0, rfl⟩ : ∃ W0 : World, W0 = wr := ⟨_, rfl⟩
        have HR2 := Lib.hid hrow
        have HBel2 := Lib.hid hbel
        clear hrow
        by_cases hlt2 : j < m
        · have hN : N = n + m := HN.out
          have hcp := HR2.out.cell (i := k + j) (by omega)
          have HGj : g j < 4294967296 := HG.out j hlt2
          have HPj : p (k + j) < 4294967296 := hpB.out (k + j) (by omega)
          have HA1 := Lib.hid (fun W (h : Below W0.heap.size W0 W) => HAf.out k W (below_then hbel h))
          have HA2 := Lib.hid (fun W (h : Below W0.heap.size W0 W) => HAg.out j W (below_then hbel h))
          rw [dig_of_lt hlt] at HA1
          rw [dig_of_lt hlt2] at HA2
          obtain ⟨w1, w2, w3, w4⟩ := mul_wraps HFk HGj HPj hc0
          have hfit : f k * g j + p (k + j) + c0 < 18446744073709551616 := Nat.lt_of_lt_of_eq (mul_fits HFk HGj HPj hc0) (by decide)
          obtain ⟨t, ht⟩ : ∃ t, t = k + j := ⟨_, rfl⟩
          have hw : IntKind.i64.wrap ((k : Int) + (j : Int)) = (t : Int) := by rw [IntKind.wrap_i64]; omega
          have hw2 : IntKind.i64.wrap (t : Int) = (t : Int) := by rw [IntKind.wrap_i64]; omega
          have ht1 : ((k : Int) + (j : Int)) = (t : Int) := by omega
          have i1 : (0 : Int) ≤ (t : Int) := by omega
          have i2 : (t : Int) < (N : Int) := by omega
          have HT := Lib.hid ht
          obtain ⟨r, hr⟩ : ∃ r, r = f k * g j + p (k + j) + c0 := ⟨_, rfl⟩
          rw [← hr] at w3 hfit
          have HRr := Lib.hid hr
          rw [← ht] at hcp w2 w3 w4 HPj
          have hfz := HR2.out.frozen t
          obtain ⟨x, hx⟩ : ∃ x, x = f k := ⟨_, rfl⟩
          obtain ⟨y, hy⟩ : ∃ y, y = g j := ⟨_, rfl⟩
          obtain ⟨e, he⟩ : ∃ e, e = p t := ⟨_, rfl⟩
          rw [← hx, ← hy, ← he] at w2 w3
          rw [← hx, ← hy] at w1
          rw [← he] at w4 hcp HPj
          rw [← hx] at HA1
          rw [← hy] at HA2
          obtain ⟨z, hz2⟩ : ∃ z, z = x * y := ⟨_, rfl⟩
          rw [← hz2] at w1 w2 w3
          obtain ⟨q, hq⟩ : ∃ q, q = e + z := ⟨_, rfl⟩
          rw [← hq] at w2 w3
          have Hx := Lib.hid hx
          have Hy := Lib.hid hy
          have He := Lib.hid he
          clear hbel ht hr hx hy he hz2 hq hN
          go_upto_region 9 with fail
          go_cut [9] (fun s9 wx => s9 = .int .u64 (r : Nat) ∧ Drawn W0 wx)
          case first =>
            have hD := Lib.hid (Drawn.refl W0)
            go_region_held3 (fun w' => w'.cell? ⟨w.heap.size, t, none⟩ = some (.int .u32 (e : Nat))) (first | go_keep | assumption)
              (first
                | (go_at_call_of 129 (Value.slice A n cap); refine (HA1.out _ (Below.refl _ _).drew).mono ?_; rintro e1 wa ⟨rfl, rfl⟩)
                | (go_at_call_of 129 (Value.slice A2 m cap2); refine (HA2.out _ (Below.refl _ _).drew).mono ?_; rintro e1 wa ⟨rfl, rfl⟩))
            all_goals
              go_wp2_with fail
              go_meet
              case rel => exact ⟨rfl, (Drawn.refl _).drew⟩
          case rest =>
            obtain ⟨rfl, hdr⟩ := hcut
            have HB3 := Lib.hid (HBel2.out.trans (hdr.below.mono HBel2.out.size))
            have HR3 := Lib.hid (HR2.out.of_block (hdr.below.block _ HR2.out.lt))
            have hcp3 := HR3.out.cell (i := t) (by omega)
            have hfz3 := HR3.out.frozen t
            clear hdr w1 w2 w3 w4 hcp hfz
            go_wp2
            go_roundw
            case rel =>
              have ht := HT.out
              have hr := HRr.out
              refine ⟨j + 1, r / B, upd p t (r % B), hlt2, ?_, by go_num, rfl, upd_lt hpB.out (Nat.mod_lt _ B_pos), rowIs_upd HR3.out t _ _ rfl, ?_, ?_, HB3.out.setCell (p := ⟨w.heap.size, t, none⟩) (Nat.le_refl _) _⟩
              · have := carry_fits (t := r) (Nat.lt_of_lt_of_eq hfit (by decide))
                exact this
              · show _ = _
                rw [← Nat.add_assoc, ht, val_upd_next, val_succ, val_succ]
                have := mul_round k j hpv.out (o' := (f k * g j + p (k + j) + c0) % B) (c' := (f k * g j + p (k + j) + c0) / B) (y := g j) (old := p (k + j)) rfl rfl
                rw [← hr] at this
                rw [hpo.out (k + j) (Nat.le_refl _)] at this
                exact this
              · intro s hs
                rw [upd_other _ _ (by omega)]
                exact hpo.out s (by omega)
            case measure => simp [intOf]; omega
        · obtain rfl : j = m := by omega
          have hN : N = n + j := HN.out
          obtain ⟨t, ht⟩ : ∃ t, t = k + j := ⟨_, rfl⟩
          have hcp := HR2.out.cell (i := t) (by omega)
          have hfz := HR2.out.frozen t
          have hw2 : IntKind.i64.wrap (t : Int) = (t : Int) := by rw [IntKind.wrap_i64]; omega
          have ht1 : ((k : Int) + (j : Int)) = (t : Int) := by omega
          have i1 : (0 : Int) ≤ (t : Int) := by omega
          have i2 : (t : Int) < (N : Int) := by omega
          have HT := Lib.hid ht
          clear hbel ht hN
          go_wp2
          go_roundw
          case rel =>
            have ht := HT.out
            refine ⟨k + 1, upd p t c0, hlt, by go_num, upd_lt hpB.out hc0, rowIs_upd HR2.out t _ _ rfl, ?_, ?_, HBel2.out.setCell (p := ⟨w.heap.size, t, none⟩) (Nat.le_refl _) _⟩
            · show _ = _
              rw [ht, show k + 1 + j = k + j + 1 by omega, val_upd_next, hpv.out, hval.out, val_succ, Nat.add_mul]
              rw [Nat.mul_assoc (f k), Nat.mul_comm (val g j), Nat.mul_assoc (f k)]
            · intro s hs
              rw [upd_other _ _ (by omega), hpo.out s (by omega)]
              exact hz.out s (by omega)
          case measure => simp [intOf]; omega
    · obtain rfl : k = n := by omega
      have HT := Lib.hid (rtrim_any N o _ _ (rd_of_row HR.out (by have := HN.out; omega)) hoB.out (by have := HN.out; omega))
      rw [show val o N = val f k * val g m by rw [HN.out]; exact hval.out] at HT
      clear hbel
      go_wp2_with fail
      refine HT.out.mono ?_
      rintro e w1 ⟨v1, rfl, hN, hB, _⟩
      have HN := Lib.hid hN
      have HB1 := Lib.hid (HBel.out.trans (hB.mono HBel.out.size))
      clear hN hB
      go_wp2
      go_ret
      exact ⟨v1, rfl, HN.out, HB1.out⟩

end Go.Proofs.YtmbokpfgnicboaaGreat
