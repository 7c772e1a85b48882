import Derived.Test.YtmbokpfgnicboaaGreatT1
import Derived.Test.YtmbokpfgnicboaaGreatSt
import Derived.Deep.MidRow
import Derived.Deep.DeepCutAuto
import Derived.Deep.CutBlock
import Derived.Deep.RegionHeld3
import Derived.BigRegion
set_option linter.unusedVariables false
set_option linter.unusedSimpArgs false
/- The walks of codes of steps: the program's arrangement. -/
namespace Go.Proofs.YtmbokpfgnicboaaGreat
open Go.RowKit Go.Hd Go.Sort _root_.Hd

/-- A code of steps with its arrangement, cell by cell. -/
def ssF (U Bk : Int) (K : Nat → Nat) (lv lu s : Value) (i : Nat) : Value := if i < 20 then stF U Bk K lv lu i else s
theorem ss_cs (U Bk : Int) (K : Nat → Nat) (lv lu s : Value) : ∀ i, i < 21 → (#[.int .i64 U, .int .i64 Bk, .int .u8 (K 0), .int .u8 (K 1), .int .u8 (K 2), .int .u8 (K 3), .int .u8 (K 4), .int .u8 (K 5), .int .u8 (K 6), .int .u8 (K 7), .int .u8 (K 8), .int .u8 (K 9), .int .u8 (K 10), .int .u8 (K 11), .int .u8 (K 12), .int .u8 (K 13), .int .u8 (K 14), .int .u8 (K 15), lv, lu, s] : Array Value)[i]? = some (ssF U Bk K lv lu s i) := fun i hi => by
  match i, hi with
  | 0, _ => rfl
  | 1, _ => rfl
  | 2, _ => rfl
  | 3, _ => rfl
  | 4, _ => rfl
  | 5, _ => rfl
  | 6, _ => rfl
  | 7, _ => rfl
  | 8, _ => rfl
  | 9, _ => rfl
  | 10, _ => rfl
  | 11, _ => rfl
  | 12, _ => rfl
  | 13, _ => rfl
  | 14, _ => rfl
  | 15, _ => rfl
  | 16, _ => rfl
  | 17, _ => rfl
  | 18, _ => rfl
  | 19, _ => rfl
  | 20, _ => rfl
  | n + 21, h => exact absurd h (by omega)
theorem ss_row (w : World) (U Bk : Int) (K : Nat → Nat) (lv lu s : Value) (t : TypeId) : (w.alloc (.cells #[.int .i64 U, .int .i64 Bk, .int .u8 (K 0), .int .u8 (K 1), .int .u8 (K 2), .int .u8 (K 3), .int .u8 (K 4), .int .u8 (K 5), .int .u8 (K 6), .int .u8 (K 7), .int .u8 (K 8), .int .u8 (K 9), .int .u8 (K 10), .int .u8 (K 11), .int .u8 (K 12), .int .u8 (K 13), .int .u8 (K 14), .int .u8 (K 15), lv, lu, s] t)).rowIs w.heap.size t 21 (ssF U Bk K lv lu s) :=
  World.rowIs_alloc w _ _ _ (fun i hi => ss_cs U Bk K lv lu s i hi)
theorem st_key {w : World} {g : Nat} {t : TypeId} {U Bk : Int} {K : Nat → Nat} {lv lu : Value} (h : w.rowIs g t 20 (stF U Bk K lv lu)) : ∀ j, j < 16 → w.cell? ⟨g, 2 + j, none⟩ = some (.int .u8 (K j)) := fun j hj => by
  have := h.cell (i := 2 + j) (by omega)
  rw [this]
  unfold stF
  rw [if_neg (by omega), if_neg (by omega), if_pos (by omega), show 2 + j - 2 = j by omega]
theorem st_range {w : World} {b : Nat} {t : TypeId} {U Bk : Int} {K : Nat → Nat} {lv lu : Value} (h : w.rowIs b t 20 (stF U Bk K lv lu)) : w.rangeAt b 0 (#[.int .i64 U, .int .i64 Bk, .int .u8 (K 0), .int .u8 (K 1), .int .u8 (K 2), .int .u8 (K 3), .int .u8 (K 4), .int .u8 (K 5), .int .u8 (K 6), .int .u8 (K 7), .int .u8 (K 8), .int .u8 (K 9), .int .u8 (K 10), .int .u8 (K 11), .int .u8 (K 12), .int .u8 (K 13), .int .u8 (K 14), .int .u8 (K 15), lv, lu] : Array Value).toList := fun j v hv => by
  rw [Nat.zero_add]
  have hj : j < 20 := (List.getElem?_eq_some_iff.1 hv).1
  have h1 := h.cell hj
  have h2 := st_cs U Bk K lv lu j hj
  rw [h1]
  rw [Array.getElem?_toList] at hv
  rw [h2] at hv
  exact hv

set_option maxRecDepth 100000 in
set_option maxHeartbeats 2000000 in
theorem stepsOf_good (U d : Nat) (n m : Nat) (K : Nat → Nat) (f g : Nat → Nat) (v u : Value) (w : World) (hv : Rd w .u32 v n f) (hu : Rd w .u32 u m g) (hf : ∀ j, j < n → f j < B) (hg : ∀ j, j < m → g j < B) (hK : Kb K) (hs : VSt (U : Int) (d : Int) n f m g) :
    Calls Tryz.prog 66 #[stV (U : Int) (d : Int) K v u] w fun e w' => ∃ bs ba, e = .returned (.tuple #[.pointer (some ⟨bs, 0, none⟩), .int .i64 0]) ∧ w'.rowIs bs 164 21 (ssF (U : Int) (d : Int) K v u (.slice (some ⟨ba, 0, none⟩) ((U - 1) * d) ((U - 1) * d))) ∧
      w'.rowIs ba 3 ((U - 1) * d) (fun i => .int .i64 (arN K ((U - 1) * d) i : Nat)) ∧ w.heap.size ≤ bs ∧ w.heap.size ≤ ba ∧ Below w.heap.size w w' := by
  have hal := (Below.refl _ w).alloc (Nat.le_refl _) (.cells #[.int .i64 (U : Int), .int .i64 (d : Int), .int .u8 (K 0), .int .u8 (K 1), .int .u8 (K 2), .int .u8 (K 3), .int .u8 (K 4), .int .u8 (K 5), .int .u8 (K 6), .int .u8 (K 7), .int .u8 (K 8), .int .u8 (K 9), .int .u8 (K 10), .int .u8 (K 11), .int .u8 (K 12), .int .u8 (K 13), .int .u8 (K 14), .int .u8 (K 15), v, u] 29)
  have HCk := Lib.hid (checkSteps_any (U : Int) (d : Int) K n m f g v u _ (hv.below hal) (hu.below hal) hf hg)
  rw [spE_yes hs] at HCk
  have HA := Lib.hid hal
  have HS := Lib.hid (st_row w (U : Int) (d : Int) K v u 29)
  have hd1 : 1 ≤ d := by have := hs.2.2.1; omega
  have hd : d ≤ 64 := by have := hs.2.2.2.1; omega
  have hU2 : 2 ≤ U := by have := hs.1; omega
  have hU16 : U ≤ 16 := by have := hs.2.1; omega
  obtain ⟨A, n', c, rfl⟩ : ∃ A n c, v = .slice A n c := by obtain ⟨A, c, h, _⟩ := hv; exact ⟨_, _, _, h⟩
  obtain ⟨A2, m', c2, rfl⟩ : ∃ A n c, u = .slice A n c := by obtain ⟨A, c, h, _⟩ := hu; exact ⟨_, _, _, h⟩
  have hNU : (U - 1) * d ≤ 15 * 64 := Nat.mul_le_mul (by omega) hd
  have hNI : ((U : Int) - 1) * (d : Int) = (((U - 1) * d : Nat) : Int) := by rw [Int.natCast_mul, show ((U - 1 : Nat) : Int) = (U : Int) - 1 by omega]
  generalize (U - 1) * d = N at *
  have HD := Lib.hid (fun W => derive_any K 70 0 W hK (by omega) (by unfold W64; omega))
  have HN := Lib.hid (fun i (hi : i < 2000) W => number_any (derN K 70 0) i (i + 1) W (derN_kb _ _ _) (by unfold W64; omega) (by unfold W64; omega))
  have hmk := run_make_row' (P := Tryz.prog) 38 3 (.int .i64 0) 8 Tryz.underlying38 infoInt3 rfl .i64 .i64 N (by omega) (by omega)
  clear hv hu hf hg hal hs
  go_enter Tryz.func66, Tryz.ntmps66
  go_wp2_with (refine wp_load_whole rfl 29 _ rfl w.heap.size rfl 29 20 _ _ _ HS.out rfl (st_cs _ _ _ _ _) Tryz.underlying29 rfl st_size ?_)
  refine HCk.out.mono ?_
  rintro e w1 ⟨rfl, hB1⟩
  have HB1 := Lib.hid (below_then HA.out hB1)
  have HS1 := Lib.hid (HS.out.of_block (hB1.block _ HS.out.lt))
  have k0 : w1.cell? ⟨w.heap.size, 0, none⟩ = some (.int .i64 U) := HS1.out.cell (i := 0) (by omega)
  have k1 : w1.cell? ⟨w.heap.size, 1, none⟩ = some (.int .i64 d) := HS1.out.cell (i := 1) (by omega)
  have hR := st_range HS1.out
  have hw1 : IntKind.i64.wrap ((U : Int) - 1) = (U : Int) - 1 := by rw [IntKind.wrap_i64]; omega
  have hw2 : IntKind.i64.wrap (((U : Int) - 1) * (d : Int)) = (N : Int) := by rw [hNI, IntKind.wrap_i64]; omega
  have hw3 : IntKind.i64.wrap (N : Int) = (N : Int) := by rw [IntKind.wrap_i64]; omega
  clear hB1
  have hu20 := Tryz.underlying29
  have hi20 : (Tryz.prog.info? 29).map (·.size) = some (#[.int .i64 (U : Int), .int .i64 (d : Int), .int .u8 (K 0), .int .u8 (K 1), .int .u8 (K 2), .int .u8 (K 3), .int .u8 (K 4), .int .u8 (K 5), .int .u8 (K 6), .int .u8 (K 7), .int .u8 (K 8), .int .u8 (K 9), .int .u8 (K 10), .int .u8 (K 11), .int .u8 (K 12), .int .u8 (K 13), .int .u8 (K 14), .int .u8 (K 15), (.slice A n' c), (.slice A2 m' c2)] : Array Value).toList.length := st_size
  have hLd : ∀ W : World, W.rangeAt w.heap.size 0 (#[.int .i64 (U : Int), .int .i64 (d : Int), .int .u8 (K 0), .int .u8 (K 1), .int .u8 (K 2), .int .u8 (K 3), .int .u8 (K 4), .int .u8 (K 5), .int .u8 (K 6), .int .u8 (K 7), .int .u8 (K 8), .int .u8 (K 9), .int .u8 (K 10), .int .u8 (K 11), .int .u8 (K 12), .int .u8 (K 13), .int .u8 (K 14), .int .u8 (K 15), (.slice A n' c), (.slice A2 m' c2)] : Array Value).toList → (Instr.loadAt 29 (.pointer (some ⟨w.heap.size, 0, none⟩))).run Tryz.prog W = .ok (stV (U : Int) (d : Int) K (.slice A n' c) (.slice A2 m' c2)) W := fun W h => run_loadAt_mid W w.heap.size 0 29 _ _ h hu20 rfl hi20
  go_upto_region 4 with fail
  go_cut [5] (fun s5 wx => ∃ bs ba, s5 = .pointer (some ⟨bs, 0, none⟩) ∧ wx.rowIs bs 164 21 (ssF (U : Int) (d : Int) K (.slice A n' c) (.slice A2 m' c2) (.slice (some ⟨ba, 0, none⟩) N N)) ∧ wx.rowIs ba 3 N (fun _ => .int .i64 0) ∧ w1.heap.size ≤ bs ∧ w1.heap.size ≤ ba ∧ bs ≠ ba ∧ Below w1.heap.size w1 wx)
  case first =>
    refine wp_region_held_drew (S := fun w' : World => w'.rangeAt w.heap.size 0 (#[.int .i64 (U : Int), .int .i64 (d : Int), .int .u8 (K 0), .int .u8 (K 1), .int .u8 (K 2), .int .u8 (K 3), .int .u8 (K 4), .int .u8 (K 5), .int .u8 (K 6), .int .u8 (K 7), .int .u8 (K 8), .int .u8 (K 9), .int .u8 (K 10), .int .u8 (K 11), .int .u8 (K 12), .int .u8 (K 13), .int .u8 (K 14), .int .u8 (K 15), (.slice A n' c), (.slice A2 m' c2)] : Array Value).toList ∧ w'.cell? ⟨w.heap.size, 0, none⟩ = some (.int .i64 U) ∧ w'.cell? ⟨w.heap.size, 1, none⟩ = some (.int .i64 d)) (by kernel_rfl) ⟨by simpa using hR, by simpa using k0, by simpa using k1⟩ (fun hHeld => ?_)
    refine' wpAnyH_take (i := 0) (v := _) rfl (by kernel_rfl) (by kernel_rfl) (by kernel_rfl) (fun _ _ _ h => h) (yieldsIf_load_mid (by rfl) _ _ rfl _ _ rfl _ _ (fun W h => h.1) hu20 rfl hi20) (by assumption) ?_
    (try simp only [Act.put, List.setIfInBounds_toArray, List.set_cons_zero, List.set_cons_succ])
    (refine wpAnyH_take (i := 1) (v := ?_) rfl (by kernel_rfl) (by kernel_rfl) (by kernel_rfl) (fun _ _ _ h => h) (Or.inl ⟨by rfl, ?_⟩) (by assumption) ?_; rotate_left; focus ((intro w hSw; (try dsimp only at hSw); go_simp) <;> (try with_reducible rfl)); (try simp only [Act.put, List.setIfInBounds_toArray, List.set_cons_zero, List.set_cons_succ]))
    (refine wpAnyH_take (i := 2) (v := ?_) rfl (by kernel_rfl) (by kernel_rfl) (by kernel_rfl) (fun _ _ _ h => h) (Or.inl ⟨by rfl, ?_⟩) (by assumption) ?_; rotate_left; focus ((intro w hSw; (try dsimp only at hSw); go_simp) <;> (try with_reducible rfl)); (try simp only [Act.put, List.setIfInBounds_toArray, List.set_cons_zero, List.set_cons_succ]))
    (refine wpAnyH_take (i := 3) (v := ?_) rfl (by kernel_rfl) (by kernel_rfl) (by kernel_rfl) (fun _ _ _ h => h) (Or.inl ⟨by rfl, ?_⟩) (by assumption) ?_; rotate_left; focus ((intro w hSw; (try dsimp only at hSw); go_simp) <;> (try with_reducible rfl)); (try simp only [Act.put, List.setIfInBounds_toArray, List.set_cons_zero, List.set_cons_succ]))
    (refine wpAnyH_take (i := 4) (v := ?_) rfl (by kernel_rfl) (by kernel_rfl) (by kernel_rfl) (fun _ _ _ h => h) (Or.inl ⟨by rfl, ?_⟩) (by assumption) ?_; rotate_left; focus ((intro w hSw; (try dsimp only at hSw); go_simp) <;> (try with_reducible rfl)); (try simp only [Act.put, List.setIfInBounds_toArray, List.set_cons_zero, List.set_cons_succ]))
    (refine wpAnyH_take (i := 5) (v := ?_) rfl (by kernel_rfl) (by kernel_rfl) (by kernel_rfl) (fun _ _ _ h => h) (Or.inl ⟨by rfl, ?_⟩) (by assumption) ?_; rotate_left; focus ((intro w hSw; (try dsimp only at hSw); go_simp) <;> (try with_reducible rfl)); (try simp only [Act.put, List.setIfInBounds_toArray, List.set_cons_zero, List.set_cons_succ]))
    (refine wpAnyH_take (i := 6) (v := ?_) rfl (by kernel_rfl) (by kernel_rfl) (by kernel_rfl) (fun _ _ _ h => h) (Or.inl ⟨by rfl, ?_⟩) (by assumption) ?_; rotate_left; focus ((intro w hSw; (try dsimp only at hSw); go_simp) <;> (try with_reducible rfl)); (try simp only [Act.put, List.setIfInBounds_toArray, List.set_cons_zero, List.set_cons_succ]))
    (refine wpAnyH_ready (rs := [7]) (by kernel_rfl) (by simp) (AllReadyH.cons rfl (fun K hK => ?_) AllReadyH.nil); go_simp)
    refine hK.out _ _ ⟨World.rangeAt_alloc hHeld.1 _, cell_below ((Below.refl _ _).alloc (Nat.le_refl _) _) hHeld.2.1, cell_below ((Below.refl _ _).alloc (Nat.le_refl _) _) hHeld.2.2⟩ (fun hHeld2 => ?_)
    clear hK K
    (try simp only [Act.put, List.setIfInBounds_toArray, List.set_cons_zero, List.set_cons_succ])
    (refine wpAnyH_take (i := 8) (v := ?_) rfl (by kernel_rfl) (by kernel_rfl) (by kernel_rfl) (fun _ _ _ h => h) (Or.inl ⟨by rfl, ?_⟩) (by assumption) ?_; rotate_left; focus ((intro w hSw; (try dsimp only at hSw); go_simp) <;> (try with_reducible rfl)); (try simp only [Act.put, List.setIfInBounds_toArray, List.set_cons_zero, List.set_cons_succ]))
    (refine wpAnyH_ready (rs := [9]) (by kernel_rfl) (by simp) (AllReadyH.cons rfl (fun K hK => ?_) AllReadyH.nil); go_simp)
    refine hK.out _ _ ⟨World.rangeAt_alloc hHeld2.1 _, cell_below ((Below.refl _ _).alloc (Nat.le_refl _) _) hHeld2.2.1, cell_below ((Below.refl _ _).alloc (Nat.le_refl _) _) hHeld2.2.2⟩ (fun hHeld3 => ?_)
    clear hK K
    (try simp only [Act.put, List.setIfInBounds_toArray, List.set_cons_zero, List.set_cons_succ])
    (refine wpAnyH_take (i := 10) (v := ?_) rfl (by kernel_rfl) (by kernel_rfl) (by kernel_rfl) (fun _ _ _ h => h) (Or.inl ⟨by rfl, ?_⟩) (by assumption) ?_; rotate_left; focus ((intro w hSw; (try dsimp only at hSw); go_simp) <;> (try with_reducible rfl)); (try simp only [Act.put, List.setIfInBounds_toArray, List.set_cons_zero, List.set_cons_succ]))
    refine wpAnyH_done (by kernel_rfl) ?_ _
    go_wp2_with fail
    go_meet
    case rel =>
      refine ⟨w1.heap.size + 1, w1.heap.size, rfl, ?_, ?_, Nat.le_succ _, Nat.le_refl _, by omega, ?_⟩
      · have h := ss_row (w1.alloc (.cells (madeCells #[.int .i64 0] N) 3)) (U : Int) (d : Int) K (.slice A n' c) (.slice A2 m' c2) (.slice (some ⟨w1.heap.size, 0, none⟩) N N) 164
        rw [World.size_alloc] at h
        exact h.of_block rfl
      · exact ((World.rowIs_made w1 (.int .i64 0) N 3).alloc _).of_block rfl
      · exact (((Below.refl w1.heap.size w1).alloc (Nat.le_refl _) _).alloc (by simp) _).drew
  case rest =>
    obtain ⟨bs, ba, rfl, hrs, hra, hbs, hba, hne, hbx⟩ := hcut
    obtain ⟨W1, rfl⟩ : ∃ W1 : World, W1 = wc := ⟨_, rfl⟩
    have HRs := Lib.hid hrs
    have HRa := Lib.hid hra
    have HBx := Lib.hid hbx
    have hbsl := hrs.lt
    have hne2 : ba ≠ bs := fun e => hne e.symm
    have c20 := hrs.cell (i := 20) (by omega)
    have hsz1 : w.heap.size < w1.heap.size := HS1.out.lt
    clear hrs hra hbx k0 k1 hR hLd hmk hw1 hw2
    dsimp only [ssF] at c20
    rw [if_neg (by omega)] at c20
    go_wp2_with fail
    go_loopw [6, 30] (fun s6 s30 wr => ∃ i : Nat, i ≤ N ∧ s30 = .int .i64 i ∧ wr.rowIs ba 3 N (fun x => .int .i64 ((if x < i then x else 0 : Nat))) ∧ wr.rowIs bs 164 21 (ssF (U : Int) (d : Int) K (.slice A n' c) (.slice A2 m' c2) (.slice (some ⟨ba, 0, none⟩) N N)) ∧ Below w1.heap.size w1 wr) (fun _ s30 _ => N - (intOf s30).toNat)
    case atStart => exact ⟨0, Nat.zero_le _, rfl, HRa.out.congr (fun x _ => by rw [if_neg (by omega)]; rfl), HRs.out, HBx.out⟩
    case round =>
      obtain ⟨i, hi, rfl, hra, hrs, hbel⟩ := hrel
      obtain ⟨W2, rfl⟩ : ∃ W2 : World, W2 = wr := ⟨_, rfl⟩
      have HRow := Lib.hid hra
      have HRs2 := Lib.hid hrs
      have HB := Lib.hid hbel
      have p20 := hrs.cell (i := 20) (by omega)
      dsimp only [ssF] at p20
      rw [if_neg (by omega)] at p20
      by_cases hlt : i < N
      · have hci := hra.cell (i := i) hlt
        have hfz := hra.frozen i
        clear hra hrs hbel
        go_wp2_with fail
        go_roundw
        case rel =>
          refine ⟨i + 1, by omega, by go_num, (HRow.out.set i _).congr fun x hx => ?_, HRs2.out.setOther hne _, HB.out.setCell (p := ⟨ba, i, none⟩) hba _⟩
          by_cases e : x = i
          · subst e
            rw [if_pos rfl, if_pos (by omega)]
          · rw [if_neg e]
            by_cases h : x < i
            · rw [if_pos h, if_pos (by omega)]
            · rw [if_neg h, if_neg (by omega)]
        case measure => simp [intOf]; omega
      · obtain rfl : i = N := by omega
        have HS2 := Lib.hid (HS1.out.of_block (hbel.block _ hsz1))
        clear hra hrs hbel
        go_wp2_with (refine wp_load_cells rfl 23 _ rfl w.heap.size 2 rfl 16 _ _ _ (st_key HS2.out) rfl (key_cs K) Tryz.underlying23 rfl key_size ?_)
        refine (HD.out _).mono ?_
        rintro e w3 ⟨rfl, hB3⟩
        have HB3 := Lib.hid (belowB_then HB.out HB.out.size hB3)
        have HRow3 := Lib.hid (HRow.out.of_block (hB3.block _ HRow.out.lt))
        have HRs3 := Lib.hid (HRs2.out.of_block (hB3.block _ HRs2.out.lt))
        have hz := zero_row w3 (fun _ => 0) (fun _ _ => rfl) 23
        have HZ := Lib.hid hz
        have hrl := HRow3.out.lt
        have hsl := HRs3.out.lt
        have hw3 := HB3.out.size
        clear hB3 hz p20 c20
        go_wp2_with (refine wp_store_whole rfl 23 _ _ rfl w3.heap.size _ rfl rfl 23 16 _ _ HZ.out rfl (key_cs _) key_size (key_one _) ?_; intro w4 hk4 hg4; have HK4 := Lib.hid hk4; have hB4 := (HB3.out.alloc hw3 _).trans (below_grown hg4 hw3 (by simp)); have HB4 := Lib.hid hB4; have HRow4 := Lib.hid ((HRow3.out.alloc _).of_block (kept_grown hg4 (by simp; omega) (by omega))); have HRs4 := Lib.hid ((HRs3.out.alloc _).of_block (kept_grown hg4 (by simp; omega) (by omega))); have p20 := HRs4.out.cell (i := 20) (by omega); dsimp only [ssF] at p20; rw [if_neg (by omega)] at p20; clear hk4 hg4 hB4)
        have hkl := HK4.out.lt
        have hne3 : w3.heap.size ≠ ba := by omega
        have hne4 : ba ≠ w3.heap.size := by omega
        go_wp2_with fail
        go_loopw [8] (fun s8 wr => ∃ j : Nat, (j = 0 ∨ j ≤ i - 1) ∧ s8 = .int .i64 ((i : Int) - 1 - j) ∧ wr.rowIs ba 3 i (fun x => .int .i64 (arr (fun x => numN (derN K 70 0) x (x + 1)) i j x : Nat)) ∧ wr.rowIs bs 164 21 (ssF (U : Int) (d : Int) K (.slice A n' c) (.slice A2 m' c2) (.slice (some ⟨ba, 0, none⟩) i i)) ∧ wr.rowIs w3.heap.size 23 16 (fun x => .int .u8 (derN K 70 0 x : Nat)) ∧ Below w1.heap.size w1 wr) (fun s8 _ => (intOf s8 + 1).toNat)
        case atStart => exact ⟨0, Or.inl rfl, by congr 1; omega, HRow4.out.congr fun x hx => by rw [if_pos hx]; rfl, HRs4.out, HK4.out, HB4.out⟩
        case round =>
          obtain ⟨j, hj, rfl, hra, hrs, hkey, hbel⟩ := hrel
          obtain ⟨W5, rfl⟩ : ∃ W5 : World, W5 = wr := ⟨_, rfl⟩
          have HRow := Lib.hid hra
          have HRsv := Lib.hid hrs
          have HKey := Lib.hid hkey
          have HB := Lib.hid hbel
          clear p20
          by_cases hlt : 1 ≤ i - 1 - j
          · obtain ⟨x, hx⟩ : ∃ x, x = i - 1 - j := ⟨_, rfl⟩
            have hxI : (i : Int) - 1 - j = (x : Int) := by omega
            rw [hxI]
            obtain ⟨q, hq⟩ : ∃ q, q = numN (derN K 70 0) x (x + 1) := ⟨_, rfl⟩
            have hqi : q ≤ x := by rw [hq]; exact numN_le _ _
            have HNk := Lib.hid (HN.out x (by omega))
            rw [← hq, show ((x + 1 : Nat) : Int) = (x : Int) + 1 by omega] at HNk
            have hik : x < i := by omega
            have hi1 : (1 : Int) ≤ (x : Int) := by omega
            have HQ := Lib.hid hq
            have HI := Lib.hid hx
            clear hra hrs hkey hbel hq hx hxI
            go_wp2_with (refine wp_load_whole rfl 23 _ rfl w3.heap.size rfl 23 16 _ _ _ HKey.out rfl (key_cs _) Tryz.underlying23 rfl key_size ?_)
            refine (HNk.out _).mono ?_
            rintro e w5 ⟨rfl, hB5⟩
            have HRow5 := Lib.hid (HRow.out.of_block (hB5.block _ HRow.out.lt))
            have HRs5 := Lib.hid (HRsv.out.of_block (hB5.block _ HRsv.out.lt))
            have HKey5 := Lib.hid (HKey.out.of_block (hB5.block _ HKey.out.lt))
            have HB5 := Lib.hid (belowB_then HB.out HB.out.size hB5)
            have c1 := HRow5.out.cell (i := x) hik
            have c2' := HRow5.out.cell (i := q) (by omega)
            have z1 := HRow5.out.frozen x
            have z2 := HRow5.out.frozen q
            have p20 := HRs5.out.cell (i := 20) (by omega)
            dsimp only [ssF] at p20
            rw [if_neg (by omega)] at p20
            have hq64 : q < 9223372036854775808 := by omega
            clear hB5
            by_cases hqe : q = x
            · subst hqe
              clear c2' z2
              go_wp2_with fail
              go_region
              go_wp2
              go_roundw
              case rel =>
                have hi := HI.out
                refine ⟨j + 1, Or.inr (by omega), by congr 1; omega, ?_, (((HRs5.out.setOther hne _).setOther hne _).of_block rfl), (((HKey5.out.setOther hne3 _).setOther hne3 _).of_block rfl), ((HB5.out.setCell (p := ⟨ba, q, none⟩) hba _).setCell (p := ⟨ba, q, none⟩) hba _).drew⟩
                have h := rowI_swp HRow5.out q q
                show World.rowIs _ _ _ _ (fun x => .int .i64 (_root_.Hd.swp (arr (fun i => numN (derN K 70 0) i (i + 1)) i j) (i - 1 - j) (numN (derN K 70 0) (i - 1 - j) (i - 1 - j + 1)) x : Nat))
                rw [← hi, ← HQ.out]
                exact h
              case measure => simp [intOf]
            · have hqe2 : x ≠ q := fun h => hqe h.symm
              go_wp2_with fail
              go_region
              go_wp2
              go_roundw
              case rel =>
                have hi := HI.out
                refine ⟨j + 1, Or.inr (by omega), by congr 1; omega, ?_, (((HRs5.out.setOther hne _).setOther hne _).of_block rfl), (((HKey5.out.setOther hne3 _).setOther hne3 _).of_block rfl), ((HB5.out.setCell (p := ⟨ba, x, none⟩) hba _).setCell (p := ⟨ba, q, none⟩) hba _).drew⟩
                have h := rowI_swp HRow5.out x q
                show World.rowIs _ _ _ _ (fun x => .int .i64 (_root_.Hd.swp (arr (fun i => numN (derN K 70 0) i (i + 1)) i j) (i - 1 - j) (numN (derN K 70 0) (i - 1 - j) (i - 1 - j + 1)) x : Nat))
                rw [← hi, ← HQ.out]
                exact h
              case measure => simp [intOf]
          · have hI : (i : Int) - 1 - (j : Int) < 1 := by omega
            have HRf : Hid (W5.rowIs ba 3 i (fun x => .int .i64 (arN K i x : Nat))) := HRow.out.congr fun x hx => by
              have : j = i - 1 := by omega
              rw [this]; rfl
            clear hra hrs hkey hbel
            go_wp2
            go_ret2
            exact ⟨bs, ba, rfl, HRsv.out, HRf.out, by omega, by omega, below_then HB1.out HB.out⟩
end Go.Proofs.YtmbokpfgnicboaaGreat
