import Derived.Test.YtmbokpfgnicboaaGreatSm
import Derived.Test.YtmbokpfgnicboaaGreatPq
import Derived.Test.YtmbokpfgnicboaaGreatSt
import Derived.Deep.MidRow
import Derived.Deep.DeepCutAuto
import Derived.Deep.CutBlock
import Derived.Deep.RegionHeld3
import Derived.BigRegion
import Derived.Test.YtmbokpfgnicboaaGreatPo
import Derived.Lib.QuietBelow
set_option linter.unusedVariables false
set_option linter.unusedSimpArgs false
/- The walks of codes of steps: the reference's arrangement. -/
namespace Go.Proofs.YtmbokpfgnicboaaGreat
open Go.RowKit Go.Hd Go.Sort _root_.Hd

/-- The place of each column. -/
def arN (K : Nat → Nat) (n : Nat) : Nat → Nat := arr (fun i => numN (derN K 70 0) i (i + 1)) n (n - 1)
theorem numN_le (K : Nat → Nat) (i : Nat) : numN K i (i + 1) ≤ i := by
  unfold numN
  rw [if_neg (Nat.succ_ne_zero _)]
  exact Nat.le_of_lt_succ (Nat.mod_lt _ (Nat.succ_pos _))
theorem arN_lt (K : Nat → Nat) {n x : Nat} (h : x < n) : arN K n x < n := arr_lt (fun i _ => numN_le _ i) (n - 1) (by omega) x h
theorem infoInt3 : (Tryz.prog.info? 3).map (fun i => (i.zero, i.size, i.bytes)) = some (some (.int .i64 0), 1, 8) := by kernel_rfl

theorem rowI_swp {w : World} {b N : Nat} {t : TypeId} {f : Nat → Nat} (h : w.rowIs b t N (fun x => .int .i64 (f x : Nat))) (i j : Nat) : (((w.setCell ⟨b, i, none⟩ (.int .i64 (f j : Nat))).setCell ⟨b, j, none⟩ (.int .i64 (f i : Nat))).drew).rowIs b t N (fun x => .int .i64 (_root_.Hd.swp f i j x : Nat)) :=
  (((h.set i _).set j _).of_block (w' := ((w.setCell ⟨b, i, none⟩ (.int .i64 (f j : Nat))).setCell ⟨b, j, none⟩ (.int .i64 (f i : Nat))).drew) rfl).congr fun x _ => by
    unfold _root_.Hd.swp
    by_cases e2 : x = j
    · subst e2
      rw [if_pos rfl]
      by_cases e1 : x = i
      · rw [if_pos e1, e1]
      · rw [if_neg e1, if_pos rfl]
    · rw [if_neg e2]
      by_cases e1 : x = i
      · rw [if_pos e1, if_pos e1]
      · rw [if_neg e1, if_neg e1, if_neg e2]

set_option maxRecDepth 100000 in
set_option maxHeartbeats 1000000 in
theorem rarranged_any (K : Nat → Nat) (n : Nat) (w : World) (hK : Kb K) (hn : n ≤ 2000) :
    Calls Tryz.prog 122 #[keyV K, .int .i64 n] w fun e w' => ∃ b, e = .returned (.slice (some ⟨b, 0, none⟩) n n) ∧ w'.rowIs b 3 n (fun i => .int .i64 (arN K n i : Nat)) ∧ Below w.heap.size w w' := by
  have HD := Lib.hid (fun W => refDerive_any K 70 0 W hK (by omega) (by unfold W64; omega))
  have HN := Lib.hid (fun i (hi : i < 2000) W => refNumber_any (derN K 70 0) i (i + 1) W (derN_kb _ _ _) (by unfold W64; omega) (by unfold W64; omega))
  have hmk := run_make_row' (P := Tryz.prog) 38 3 (.int .i64 0) 8 Tryz.underlying38 infoInt3 rfl .i64 .i64 n (by omega) (by omega)
  have HS := Lib.hid (key_row w K 23)
  go_enter Tryz.func122, Tryz.ntmps122
  go_wp2_with (refine wp_load_whole rfl 23 _ rfl w.heap.size rfl 23 16 _ _ _ HS.out rfl (key_cs K) Tryz.underlying23 rfl key_size ?_)
  refine (HD.out _).mono ?_
  rintro e w1 ⟨rfl, hb⟩
  have HB1 := Lib.hid (((Below.refl w.heap.size w).alloc (Nat.le_refl _) _).trans (hb.mono (by simp)))
  have hz := zero_row w1 (fun _ => 0) (fun _ _ => rfl) 23
  have HZ := Lib.hid hz
  clear hb hz HS
  go_wp2_with (refine wp_store_whole rfl 23 _ _ rfl w1.heap.size _ rfl rfl 23 16 _ _ HZ.out rfl (key_cs _) key_size (key_one _) ?_; intro w2 hk2 hg2; have HK2 := Lib.hid hk2; have hB2 := (HB1.out.alloc HB1.out.size _).trans (below_grown hg2 (by have := HB1.out.size; omega) (by simp)); have HB2 := Lib.hid hB2; clear hk2 hg2 hB2)
  have hkl := HK2.out.lt
  go_wp2_with fail
  go_loopw [7] (fun s7 wr => ∃ k : Nat, k ≤ n ∧ s7 = .int .i64 k ∧ wr.rowIs w2.heap.size 3 n (fun i => .int .i64 ((if i < k then i else 0 : Nat))) ∧ wr.rowIs w1.heap.size 23 16 (fun i => .int .u8 (derN K 70 0 i : Nat)) ∧ Below w.heap.size w wr) (fun s7 _ => n - (intOf s7).toNat)
  case atStart =>
    exact ⟨0, Nat.zero_le _, rfl, (World.rowIs_made w2 _ n _).congr fun i hi => by rw [if_neg (by omega)]; rfl, HK2.out.alloc _, HB2.out.alloc HB2.out.size _⟩
  case round =>
    obtain ⟨k, hk, rfl, hrow, hkey, hbel⟩ := hrel
    obtain ⟨W0, rfl⟩ : ∃ W0 : World, W0 = wr := ⟨_, rfl⟩
    have HRow := Lib.hid hrow
    have HKey := Lib.hid hkey
    have HB := Lib.hid hbel
    by_cases hlt : k < n
    · have hci := hrow.cell (i := k) hlt
      have hfz := hrow.frozen k
      have hne : w1.heap.size ≠ w2.heap.size := by omega
      clear hrow hkey hbel
      go_wp2
      go_roundw
      case rel =>
        refine ⟨k + 1, by omega, by go_num, (HRow.out.set k _).congr fun i hi => ?_, HKey.out.setOther hne _, HB.out.setCell (p := ⟨w2.heap.size, k, none⟩) HB2.out.size _⟩
        by_cases e : i = k
        · subst e
          rw [if_pos rfl, if_pos (by omega)]
        · rw [if_neg e]
          by_cases h : i < k
          · rw [if_pos h, if_pos (by omega)]
          · rw [if_neg h, if_neg (by omega)]
      case measure => simp [intOf]; omega
    · obtain rfl : k = n := by omega
      clear hrow hkey hbel
      go_wp2_with fail
      go_loopw [8] (fun s8 wr => ∃ j : Nat, (j = 0 ∨ j ≤ k - 1) ∧ s8 = .int .i64 ((k : Int) - 1 - j) ∧ wr.rowIs w2.heap.size 3 k (fun i => .int .i64 (arr (fun i => numN (derN K 70 0) i (i + 1)) k j i : Nat)) ∧ wr.rowIs w1.heap.size 23 16 (fun i => .int .u8 (derN K 70 0 i : Nat)) ∧ Below w.heap.size w wr) (fun s8 _ => (intOf s8 + 1).toNat)
      case atStart => exact ⟨0, Or.inl rfl, by congr 1; omega, HRow.out.congr fun i hi => by rw [if_pos hi]; rfl, HKey.out, HB.out⟩
      case round =>
        obtain ⟨j, hj, rfl, hrow, hkey, hbel⟩ := hrel
        obtain ⟨W1, rfl⟩ : ∃ W1 : World, W1 = wr := ⟨_, rfl⟩
        have HRow := Lib.hid hrow
        have HKey := Lib.hid hkey
        have HB := Lib.hid hbel
        by_cases hlt : 1 ≤ k - 1 - j
        · obtain ⟨i, hi⟩ : ∃ i, i = k - 1 - j := ⟨_, rfl⟩
          have hiI : (k : Int) - 1 - j = (i : Int) := by omega
          rw [hiI]
          obtain ⟨q, hq⟩ : ∃ q, q = numN (derN K 70 0) i (i + 1) := ⟨_, rfl⟩
          have hqi : q ≤ i := by rw [hq]; exact numN_le _ _
          have HNk := Lib.hid (HN.out i (by omega))
          rw [← hq, show ((i + 1 : Nat) : Int) = (i : Int) + 1 by omega] at HNk
          have hik : i < k := by omega
          have hi1 : (1 : Int) ≤ (i : Int) := by omega
          have HQ := Lib.hid hq
          have HI := Lib.hid hi
          clear hrow hkey hbel hq hi hiI
          go_wp2_with (refine wp_load_whole rfl 23 _ rfl w1.heap.size rfl 23 16 _ _ _ HKey.out rfl (key_cs _) Tryz.underlying23 rfl key_size ?_)
          refine (HNk.out _).mono ?_
          rintro e w5 ⟨rfl, hB5⟩
          have HRow5 := Lib.hid (HRow.out.of_block (hB5.block _ HRow.out.lt))
          have HKey5 := Lib.hid (HKey.out.of_block (hB5.block _ HKey.out.lt))
          have HB5 := Lib.hid (HB.out.trans (hB5.mono HB.out.size))
          have c1 := HRow5.out.cell (i := i) hik
          have c2 := HRow5.out.cell (i := q) (by omega)
          have z1 := HRow5.out.frozen i
          have z2 := HRow5.out.frozen q
          have hne : w1.heap.size ≠ w2.heap.size := by omega
          have hq64 : q < 9223372036854775808 := by omega
          clear hB5
          by_cases hqe : q = i
          · subst hqe
            clear c2 z2
            go_wp2_with fail
            go_region
            go_wp2
            go_roundw
            case rel =>
              have hi := HI.out
              refine ⟨j + 1, Or.inr (by omega), by congr 1; omega, ?_, (((HKey5.out.setOther hne _).setOther hne _).of_block rfl), ((HB5.out.setCell (p := ⟨w2.heap.size, q, none⟩) HB2.out.size _).setCell (p := ⟨w2.heap.size, q, none⟩) HB2.out.size _).drew⟩
              have h := rowI_swp HRow5.out q q
              show World.rowIs _ _ _ _ (fun x => .int .i64 (_root_.Hd.swp (arr (fun i => numN (derN K 70 0) i (i + 1)) k j) (k - 1 - j) (numN (derN K 70 0) (k - 1 - j) (k - 1 - j + 1)) x : Nat))
              rw [← hi, ← HQ.out]
              exact h
            case measure => simp [intOf]
          · have hqe2 : i ≠ q := fun h => hqe h.symm
            go_wp2_with fail
            go_region
            go_wp2
            go_roundw
            case rel =>
              have hi := HI.out
              refine ⟨j + 1, Or.inr (by omega), by congr 1; omega, ?_, (((HKey5.out.setOther hne _).setOther hne _).of_block rfl), ((HB5.out.setCell (p := ⟨w2.heap.size, i, none⟩) HB2.out.size _).setCell (p := ⟨w2.heap.size, q, none⟩) HB2.out.size _).drew⟩
              have h := rowI_swp HRow5.out i q
              show World.rowIs _ _ _ _ (fun x => .int .i64 (_root_.Hd.swp (arr (fun i => numN (derN K 70 0) i (i + 1)) k j) (k - 1 - j) (numN (derN K 70 0) (k - 1 - j) (k - 1 - j + 1)) x : Nat))
              rw [← hi, ← HQ.out]
              exact h
            case measure => simp [intOf]
        · have hI : (k : Int) - 1 - (j : Int) < 1 := by omega
          have HRf : Hid (W1.rowIs w2.heap.size 3 k (fun i => .int .i64 (arN K k i : Nat))) := HRow.out.congr fun x hx => by
            have : j = k - 1 := by omega
            rw [this]; rfl
          clear hrow hkey hbel
          go_wp2
          go_ret
          exact ⟨w2.heap.size, rfl, HRf.out, HB.out⟩
end Go.Proofs.YtmbokpfgnicboaaGreat

/- The walks of codes of steps: the program's arrangement. -/
namespace Go.Proofs.YtmbokpfgnicboaaGreat
open Go.RowKit Go.Hd Go.Sort _root_.Hd

/-- A code of steps with its arrangement, cell by cell. -/
def ssF (U Bk : Int) (K : Nat → Nat) (lv lu s : Value) (i : Nat) : Value := if i < 20 then stF U Bk K lv lu i else s
theorem ss_cs (U Bk : Int) (K : Nat → Nat) (lv lu s : Value) : ∀ i, i < 21 → (#[.int .i64 U, .int .i64 Bk, .int .u8 (K 0), .int .u8 (K 1), .int .u8 (K 2), .int .u8 (K 3), .int .u8 (K 4), .int .u8 (K 5), .int .u8 (K 6), .int .u8 (K 7), .int .u8 (K 8), .int .u8 (K 9), .int .u8 (K 10), .int .u8 (K 11), .int .u8 (K 12), .int .u8 (K 13), .int .u8 (K 14), .int .u8 (K 15), lv, lu, s] : Array Value)[i]? = some (ssF U Bk K lv lu s i) := fun i hi => by
  match i, hi with
  | 0, _ => rfl
  | 1, _ => rfl
  | 2, _ => rfl
  | 3, _ => rfl
  | 4, _ => rfl
  | 5, _ => rfl
  | 6, _ => rfl
  | 7, _ => rfl
  | 8, _ => rfl
  | 9, _ => rfl
  | 10, _ => rfl
  | 11, _ => rfl
  | 12, _ => rfl
  | 13, _ => rfl
  | 14, _ => rfl
  | 15, _ => rfl
  | 16, _ => rfl
  | 17, _ => rfl
  | 18, _ => rfl
  | 19, _ => rfl
  | 20, _ => rfl
  | n + 21, h => exact absurd h (by omega)
theorem ss_row (w : World) (U Bk : Int) (K : Nat → Nat) (lv lu s : Value) (t : TypeId) : (w.alloc (.cells #[.int .i64 U, .int .i64 Bk, .int .u8 (K 0), .int .u8 (K 1), .int .u8 (K 2), .int .u8 (K 3), .int .u8 (K 4), .int .u8 (K 5), .int .u8 (K 6), .int .u8 (K 7), .int .u8 (K 8), .int .u8 (K 9), .int .u8 (K 10), .int .u8 (K 11), .int .u8 (K 12), .int .u8 (K 13), .int .u8 (K 14), .int .u8 (K 15), lv, lu, s] t)).rowIs w.heap.size t 21 (ssF U Bk K lv lu s) :=
  World.rowIs_alloc w _ _ _ (fun i hi => ss_cs U Bk K lv lu s i hi)
theorem st_key {w : World} {g : Nat} {t : TypeId} {U Bk : Int} {K : Nat → Nat} {lv lu : Value} (h : w.rowIs g t 20 (stF U Bk K lv lu)) : ∀ j, j < 16 → w.cell? ⟨g, 2 + j, none⟩ = some (.int .u8 (K j)) := fun j hj => by
  have := h.cell (i := 2 + j) (by omega)
  rw [this]
  unfold stF
  rw [if_neg (by omega), if_neg (by omega), if_pos (by omega), show 2 + j - 2 = j by omega]
theorem st_range {w : World} {b : Nat} {t : TypeId} {U Bk : Int} {K : Nat → Nat} {lv lu : Value} (h : w.rowIs b t 20 (stF U Bk K lv lu)) : w.rangeAt b 0 (#[.int .i64 U, .int .i64 Bk, .int .u8 (K 0), .int .u8 (K 1), .int .u8 (K 2), .int .u8 (K 3), .int .u8 (K 4), .int .u8 (K 5), .int .u8 (K 6), .int .u8 (K 7), .int .u8 (K 8), .int .u8 (K 9), .int .u8 (K 10), .int .u8 (K 11), .int .u8 (K 12), .int .u8 (K 13), .int .u8 (K 14), .int .u8 (K 15), lv, lu] : Array Value).toList := fun j v hv => by
  rw [Nat.zero_add]
  have hj : j < 20 := (List.getElem?_eq_some_iff.1 hv).1
  have h1 := h.cell hj
  have h2 := st_cs U Bk K lv lu j hj
  rw [h1]
  rw [Array.getElem?_toList] at hv
  rw [h2] at hv
  exact hv

set_option maxRecDepth 100000 in
set_option maxHeartbeats 2000000 in
theorem stepsOf_good (U d : Nat) (n m : Nat) (K : Nat → Nat) (f g : Nat → Nat) (v u : Value) (w : World) (hv : Rd w .u32 v n f) (hu : Rd w .u32 u m g) (hf : ∀ j, j < n → f j < B) (hg : ∀ j, j < m → g j < B) (hK : Kb K) (hs : VSt (U : Int) (d : Int) n f m g) :
    Calls Tryz.prog 66 #[stV (U : Int) (d : Int) K v u] w fun e w' => ∃ bs ba, e = .returned (.tuple #[.pointer (some ⟨bs, 0, none⟩), .int .i64 0]) ∧ w'.rowIs bs 164 21 (ssF (U : Int) (d : Int) K v u (.slice (some ⟨ba, 0, none⟩) ((U - 1) * d) ((U - 1) * d))) ∧
      w'.rowIs ba 3 ((U - 1) * d) (fun i => .int .i64 (arN K ((U - 1) * d) i : Nat)) ∧ w.heap.size ≤ bs ∧ w.heap.size ≤ ba ∧ Below w.heap.size w w' := by
  have hal := (Below.refl _ w).alloc (Nat.le_refl _) (.cells #[.int .i64 (U : Int), .int .i64 (d : Int), .int .u8 (K 0), .int .u8 (K 1), .int .u8 (K 2), .int .u8 (K 3), .int .u8 (K 4), .int .u8 (K 5), .int .u8 (K 6), .int .u8 (K 7), .int .u8 (K 8), .int .u8 (K 9), .int .u8 (K 10), .int .u8 (K 11), .int .u8 (K 12), .int .u8 (K 13), .int .u8 (K 14), .int .u8 (K 15), v, u] 29)
  have HCk := Lib.hid (checkSteps_any (U : Int) (d : Int) K n m f g v u _ (hv.below hal) (hu.below hal) hf hg)
  rw [spE_yes hs] at HCk
  have HA := Lib.hid hal
  have HS := Lib.hid (st_row w (U : Int) (d : Int) K v u 29)
  have hd1 : 1 ≤ d := by have := hs.2.2.1; omega
  have hd : d ≤ 64 := by have := hs.2.2.2.1; omega
  have hU2 : 2 ≤ U := by have := hs.1; omega
  have hU16 : U ≤ 16 := by have := hs.2.1; omega
  obtain ⟨A, n', c, rfl⟩ : ∃ A n c, v = .slice A n c := by obtain ⟨A, c, h, _⟩ := hv; exact ⟨_, _, _, h⟩
  obtain ⟨A2, m', c2, rfl⟩ : ∃ A n c, u = .slice A n c := by obtain ⟨A, c, h, _⟩ := hu; exact ⟨_, _, _, h⟩
  have hNU : (U - 1) * d ≤ 15 * 64 := Nat.mul_le_mul (by omega) hd
  have hNI : ((U : Int) - 1) * (d : Int) = (((U - 1) * d : Nat) : Int) := by rw [Int.natCast_mul, show ((U - 1 : Nat) : Int) = (U : Int) - 1 by omega]
  generalize (U - 1) * d = N at *
  have HD := Lib.hid (fun W => derive_any K 70 0 W hK (by omega) (by unfold W64; omega))
  have HN := Lib.hid (fun i (hi : i < 2000) W => number_any (derN K 70 0) i (i + 1) W (derN_kb _ _ _) (by unfold W64; omega) (by unfold W64; omega))
  have hmk := run_make_row' (P := Tryz.prog) 38 3 (.int .i64 0) 8 Tryz.underlying38 infoInt3 rfl .i64 .i64 N (by omega) (by omega)
  clear hv hu hf hg hal hs
  go_enter Tryz.func66, Tryz.ntmps66
  go_wp2_with (refine wp_load_whole rfl 29 _ rfl w.heap.size rfl 29 20 _ _ _ HS.out rfl (st_cs _ _ _ _ _) Tryz.underlying29 rfl st_size ?_)
  refine HCk.out.mono ?_
  rintro e w1 ⟨rfl, hB1⟩
  have HB1 := Lib.hid (below_then HA.out hB1)
  have HS1 := Lib.hid (HS.out.of_block (hB1.block _ HS.out.lt))
  have k0 : w1.cell? ⟨w.heap.size, 0, none⟩ = some (.int .i64 U) := HS1.out.cell (i := 0) (by omega)
  have k1 : w1.cell? ⟨w.heap.size, 1, none⟩ = some (.int .i64 d) := HS1.out.cell (i := 1) (by omega)
  have hR := st_range HS1.out
  have hw1 : IntKind.i64.wrap ((U : Int) - 1) = (U : Int) - 1 := by rw [IntKind.wrap_i64]; omega
  have hw2 : IntKind.i64.wrap (((U : Int) - 1) * (d : Int)) = (N : Int) := by rw [hNI, IntKind.wrap_i64]; omega
  have hw3 : IntKind.i64.wrap (N : Int) = (N : Int) := by rw [IntKind.wrap_i64]; omega
  clear hB1
  have hu20 := Tryz.underlying29
  have hi20 : (Tryz.prog.info? 29).map (·.size) = some (#[.int .i64 (U : Int), .int .i64 (d : Int), .int .u8 (K 0), .int .u8 (K 1), .int .u8 (K 2), .int .u8 (K 3), .int .u8 (K 4), .int .u8 (K 5), .int .u8 (K 6), .int .u8 (K 7), .int .u8 (K 8), .int .u8 (K 9), .int .u8 (K 10), .int .u8 (K 11), .int .u8 (K 12), .int .u8 (K 13), .int .u8 (K 14), .int .u8 (K 15), (.slice A n' c), (.slice A2 m' c2)] : Array Value).toList.length := st_size
  have hLd : ∀ W : World, W.rangeAt w.heap.size 0 (#[.int .i64 (U : Int), .int .i64 (d : Int), .int .u8 (K 0), .int .u8 (K 1), .int .u8 (K 2), .int .u8 (K 3), .int .u8 (K 4), .int .u8 (K 5), .int .u8 (K 6), .int .u8 (K 7), .int .u8 (K 8), .int .u8 (K 9), .int .u8 (K 10), .int .u8 (K 11), .int .u8 (K 12), .int .u8 (K 13), .int .u8 (K 14), .int .u8 (K 15), (.slice A n' c), (.slice A2 m' c2)] : Array Value).toList → (Instr.loadAt 29 (.pointer (some ⟨w.heap.size, 0, none⟩))).run Tryz.prog W = .ok (stV (U : Int) (d : Int) K (.slice A n' c) (.slice A2 m' c2)) W := fun W h => run_loadAt_mid W w.heap.size 0 29 _ _ h hu20 rfl hi20
  go_upto_region 4 with fail
  go_cut [5] (fun s5 wx => ∃ bs ba, s5 = .pointer (some ⟨bs, 0, none⟩) ∧ wx.rowIs bs 164 21 (ssF (U : Int) (d : Int) K (.slice A n' c) (.slice A2 m' c2) (.slice (some ⟨ba, 0, none⟩) N N)) ∧ wx.rowIs ba 3 N (fun _ => .int .i64 0) ∧ w1.heap.size ≤ bs ∧ w1.heap.size ≤ ba ∧ bs ≠ ba ∧ Below w1.heap.size w1 wx)
  case first =>
    refine wp_region_held_drew (S := fun w' : World => w'.rangeAt w.heap.size 0 (#[.int .i64 (U : Int), .int .i64 (d : Int), .int .u8 (K 0), .int .u8 (K 1), .int .u8 (K 2), .int .u8 (K 3), .int .u8 (K 4), .int .u8 (K 5), .int .u8 (K 6), .int .u8 (K 7), .int .u8 (K 8), .int .u8 (K 9), .int .u8 (K 10), .int .u8 (K 11), .int .u8 (K 12), .int .u8 (K 13), .int .u8 (K 14), .int .u8 (K 15), (.slice A n' c), (.slice A2 m' c2)] : Array Value).toList ∧ w'.cell? ⟨w.heap.size, 0, none⟩ = some (.int .i64 U) ∧ w'.cell? ⟨w.heap.size, 1, none⟩ = some (.int .i64 d)) (by kernel_rfl) ⟨by simpa using hR, by simpa using k0, by simpa using k1⟩ (fun hHeld => ?_)
    refine' wpAnyH_take (i := 0) (v := _) rfl (by kernel_rfl) (by kernel_rfl) (by kernel_rfl) (fun _ _ _ h => h) (yieldsIf_load_mid (by rfl) _ _ rfl _ _ rfl _ _ (fun W h => h.1) hu20 rfl hi20) (by assumption) ?_
    (try simp only [Act.put, List.setIfInBounds_toArray, List.set_cons_zero, List.set_cons_succ])
    (refine wpAnyH_take (i := 1) (v := ?_) rfl (by kernel_rfl) (by kernel_rfl) (by kernel_rfl) (fun _ _ _ h => h) (Or.inl ⟨by rfl, ?_⟩) (by assumption) ?_; rotate_left; focus ((intro w hSw; (try dsimp only at hSw); go_simp) <;> (try with_reducible rfl)); (try simp only [Act.put, List.setIfInBounds_toArray, List.set_cons_zero, List.set_cons_succ]))
    (refine wpAnyH_take (i := 2) (v := ?_) rfl (by kernel_rfl) (by kernel_rfl) (by kernel_rfl) (fun _ _ _ h => h) (Or.inl ⟨by rfl, ?_⟩) (by assumption) ?_; rotate_left; focus ((intro w hSw; (try dsimp only at hSw); go_simp) <;> (try with_reducible rfl)); (try simp only [Act.put, List.setIfInBounds_toArray, List.set_cons_zero, List.set_cons_succ]))
    (refine wpAnyH_take (i := 3) (v := ?_) rfl (by kernel_rfl) (by kernel_rfl) (by kernel_rfl) (fun _ _ _ h => h) (Or.inl ⟨by rfl, ?_⟩) (by assumption) ?_; rotate_left; focus ((intro w hSw; (try dsimp only at hSw); go_simp) <;> (try with_reducible rfl)); (try simp only [Act.put, List.setIfInBounds_toArray, List.set_cons_zero, List.set_cons_succ]))
    (refine wpAnyH_take (i := 4) (v := ?_) rfl (by kernel_rfl) (by kernel_rfl) (by kernel_rfl) (fun _ _ _ h => h) (Or.inl ⟨by rfl, ?_⟩) (by assumption) ?_; rotate_left; focus ((intro w hSw; (try dsimp only at hSw); go_simp) <;> (try with_reducible rfl)); (try simp only [Act.put, List.setIfInBounds_toArray, List.set_cons_zero, List.set_cons_succ]))
    (refine wpAnyH_take (i := 5) (v := ?_) rfl (by kernel_rfl) (by kernel_rfl) (by kernel_rfl) (fun _ _ _ h => h) (Or.inl ⟨by rfl, ?_⟩) (by assumption) ?_; rotate_left; focus ((intro w hSw; (try dsimp only at hSw); go_simp) <;> (try with_reducible rfl)); (try simp only [Act.put, List.setIfInBounds_toArray, List.set_cons_zero, List.set_cons_succ]))
    (refine wpAnyH_take (i := 6) (v := ?_) rfl (by kernel_rfl) (by kernel_rfl) (by kernel_rfl) (fun _ _ _ h => h) (Or.inl ⟨by rfl, ?_⟩) (by assumption) ?_; rotate_left; focus ((intro w hSw; (try dsimp only at hSw); go_simp) <;> (try with_reducible rfl)); (try simp only [Act.put, List.setIfInBounds_toArray, List.set_cons_zero, List.set_cons_succ]))
    (refine wpAnyH_ready (rs := [7]) (by kernel_rfl) (by simp) (AllReadyH.cons rfl (fun K hK => ?_) AllReadyH.nil); go_simp)
    refine hK.out _ _ ⟨World.rangeAt_alloc hHeld.1 _, cell_below ((Below.refl _ _).alloc (Nat.le_refl _) _) hHeld.2.1, cell_below ((Below.refl _ _).alloc (Nat.le_refl _) _) hHeld.2.2⟩ (fun hHeld2 => ?_)
    clear hK K
    (try simp only [Act.put, List.setIfInBounds_toArray, List.set_cons_zero, List.set_cons_succ])
    (refine wpAnyH_take (i := 8) (v := ?_) rfl (by kernel_rfl) (by kernel_rfl) (by kernel_rfl) (fun _ _ _ h => h) (Or.inl ⟨by rfl, ?_⟩) (by assumption) ?_; rotate_left; focus ((intro w hSw; (try dsimp only at hSw); go_simp) <;> (try with_reducible rfl)); (try simp only [Act.put, List.setIfInBounds_toArray, List.set_cons_zero, List.set_cons_succ]))
    (refine wpAnyH_ready (rs := [9]) (by kernel_rfl) (by simp) (AllReadyH.cons rfl (fun K hK => ?_) AllReadyH.nil); go_simp)
    refine hK.out _ _ ⟨World.rangeAt_alloc hHeld2.1 _, cell_below ((Below.refl _ _).alloc (Nat.le_refl _) _) hHeld2.2.1, cell_below ((Below.refl _ _).alloc (Nat.le_refl _) _) hHeld2.2.2⟩ (fun hHeld3 => ?_)
    clear hK K
    (try simp only [Act.put, List.setIfInBounds_toArray, List.set_cons_zero, List.set_cons_succ])
    (refine wpAnyH_take (i := 10) (v := ?_) rfl (by kernel_rfl) (by kernel_rfl) (by kernel_rfl) (fun _ _ _ h => h) (Or.inl ⟨by rfl, ?_⟩) (by assumption) ?_; rotate_left; focus ((intro w hSw; (try dsimp only at hSw); go_simp) <;> (try with_reducible rfl)); (try simp only [Act.put, List.setIfInBounds_toArray, List.set_cons_zero, List.set_cons_succ]))
    refine wpAnyH_done (by kernel_rfl) ?_ _
    go_wp2_with fail
    go_meet
    case rel =>
      refine ⟨w1.heap.size + 1, w1.heap.size, rfl, ?_, ?_, Nat.le_succ _, Nat.le_refl _, by omega, ?_⟩
      · have h := ss_row (w1.alloc (.cells (madeCells #[.int .i64 0] N) 3)) (U : Int) (d : Int) K (.slice A n' c) (.slice A2 m' c2) (.slice (some ⟨w1.heap.size, 0, none⟩) N N) 164
        rw [World.size_alloc] at h
        exact h.of_block rfl
      · exact ((World.rowIs_made w1 (.int .i64 0) N 3).alloc _).of_block rfl
      · exact (((Below.refl w1.heap.size w1).alloc (Nat.le_refl _) _).alloc (by simp) _).drew
  case rest =>
    obtain ⟨bs, ba, rfl, hrs, hra, hbs, hba, hne, hbx⟩ := hcut
    obtain ⟨W1, rfl⟩ : ∃ W1 : World, W1 = wc := ⟨_, rfl⟩
    have HRs := Lib.hid hrs
    have HRa := Lib.hid hra
    have HBx := Lib.hid hbx
    have hbsl := hrs.lt
    have hne2 : ba ≠ bs := fun e => hne e.symm
    have c20 := hrs.cell (i := 20) (by omega)
    have hsz1 : w.heap.size < w1.heap.size := HS1.out.lt
    clear hrs hra hbx k0 k1 hR hLd hmk hw1 hw2
    dsimp only [ssF] at c20
    rw [if_neg (by omega)] at c20
    go_wp2_with fail
    go_loopw [6, 30] (fun s6 s30 wr => ∃ i : Nat, i ≤ N ∧ s30 = .int .i64 i ∧ wr.rowIs ba 3 N (fun x => .int .i64 ((if x < i then x else 0 : Nat))) ∧ wr.rowIs bs 164 21 (ssF (U : Int) (d : Int) K (.slice A n' c) (.slice A2 m' c2) (.slice (some ⟨ba, 0, none⟩) N N)) ∧ Below w1.heap.size w1 wr) (fun _ s30 _ => N - (intOf s30).toNat)
    case atStart => exact ⟨0, Nat.zero_le _, rfl, HRa.out.congr (fun x _ => by rw [if_neg (by omega)]; rfl), HRs.out, HBx.out⟩
    case round =>
      obtain ⟨i, hi, rfl, hra, hrs, hbel⟩ := hrel
      obtain ⟨W2, rfl⟩ : ∃ W2 : World, W2 = wr := ⟨_, rfl⟩
      have HRow := Lib.hid hra
      have HRs2 := Lib.hid hrs
      have HB := Lib.hid hbel
      have p20 := hrs.cell (i := 20) (by omega)
      dsimp only [ssF] at p20
      rw [if_neg (by omega)] at p20
      by_cases hlt : i < N
      · have hci := hra.cell (i := i) hlt
        have hfz := hra.frozen i
        clear hra hrs hbel
        go_wp2_with fail
        go_roundw
        case rel =>
          refine ⟨i + 1, by omega, by go_num, (HRow.out.set i _).congr fun x hx => ?_, HRs2.out.setOther hne _, HB.out.setCell (p := ⟨ba, i, none⟩) hba _⟩
          by_cases e : x = i
          · subst e
            rw [if_pos rfl, if_pos (by omega)]
          · rw [if_neg e]
            by_cases h : x < i
            · rw [if_pos h, if_pos (by omega)]
            · rw [if_neg h, if_neg (by omega)]
        case measure => simp [intOf]; omega
      · obtain rfl : i = N := by omega
        have HS2 := Lib.hid (HS1.out.of_block (hbel.block _ hsz1))
        clear hra hrs hbel
        go_wp2_with (refine wp_load_cells rfl 23 _ rfl w.heap.size 2 rfl 16 _ _ _ (st_key HS2.out) rfl (key_cs K) Tryz.underlying23 rfl key_size ?_)
        refine (HD.out _).mono ?_
        rintro e w3 ⟨rfl, hB3⟩
        have HB3 := Lib.hid (belowB_then HB.out HB.out.size hB3)
        have HRow3 := Lib.hid (HRow.out.of_block (hB3.block _ HRow.out.lt))
        have HRs3 := Lib.hid (HRs2.out.of_block (hB3.block _ HRs2.out.lt))
        have hz := zero_row w3 (fun _ => 0) (fun _ _ => rfl) 23
        have HZ := Lib.hid hz
        have hrl := HRow3.out.lt
        have hsl := HRs3.out.lt
        have hw3 := HB3.out.size
        clear hB3 hz p20 c20
        go_wp2_with (refine wp_store_whole rfl 23 _ _ rfl w3.heap.size _ rfl rfl 23 16 _ _ HZ.out rfl (key_cs _) key_size (key_one _) ?_; intro w4 hk4 hg4; have HK4 := Lib.hid hk4; have hB4 := (HB3.out.alloc hw3 _).trans (below_grown hg4 hw3 (by simp)); have HB4 := Lib.hid hB4; have HRow4 := Lib.hid ((HRow3.out.alloc _).of_block (kept_grown hg4 (by simp; omega) (by omega))); have HRs4 := Lib.hid ((HRs3.out.alloc _).of_block (kept_grown hg4 (by simp; omega) (by omega))); have p20 := HRs4.out.cell (i := 20) (by omega); dsimp only [ssF] at p20; rw [if_neg (by omega)] at p20; clear hk4 hg4 hB4)
        have hkl := HK4.out.lt
        have hne3 : w3.heap.size ≠ ba := by omega
        have hne4 : ba ≠ w3.heap.size := by omega
        go_wp2_with fail
        go_loopw [8] (fun s8 wr => ∃ j : Nat, (j = 0 ∨ j ≤ i - 1) ∧ s8 = .int .i64 ((i : Int) - 1 - j) ∧ wr.rowIs ba 3 i (fun x => .int .i64 (arr (fun x => numN (derN K 70 0) x (x + 1)) i j x : Nat)) ∧ wr.rowIs bs 164 21 (ssF (U : Int) (d : Int) K (.slice A n' c) (.slice A2 m' c2) (.slice (some ⟨ba, 0, none⟩) i i)) ∧ wr.rowIs w3.heap.size 23 16 (fun x => .int .u8 (derN K 70 0 x : Nat)) ∧ Below w1.heap.size w1 wr) (fun s8 _ => (intOf s8 + 1).toNat)
        case atStart => exact ⟨0, Or.inl rfl, by congr 1; omega, HRow4.out.congr fun x hx => by rw [if_pos hx]; rfl, HRs4.out, HK4.out, HB4.out⟩
        case round =>
          obtain ⟨j, hj, rfl, hra, hrs, hkey, hbel⟩ := hrel
          obtain ⟨W5, rfl⟩ : ∃ W5 : World, W5 = wr := ⟨_, rfl⟩
          have HRow := Lib.hid hra
          have HRsv := Lib.hid hrs
          have HKey := Lib.hid hkey
          have HB := Lib.hid hbel
          clear p20
          by_cases hlt : 1 ≤ i - 1 - j
          · obtain ⟨x, hx⟩ : ∃ x, x = i - 1 - j := ⟨_, rfl⟩
            have hxI : (i : Int) - 1 - j = (x : Int) := by omega
            rw [hxI]
            obtain ⟨q, hq⟩ : ∃ q, q = numN (derN K 70 0) x (x + 1) := ⟨_, rfl⟩
            have hqi : q ≤ x := by rw [hq]; exact numN_le _ _
            have HNk := Lib.hid (HN.out x (by omega))
            rw [← hq, show ((x + 1 : Nat) : Int) = (x : Int) + 1 by omega] at HNk
            have hik : x < i := by omega
            have hi1 : (1 : Int) ≤ (x : Int) := by omega
            have HQ := Lib.hid hq
            have HI := Lib.hid hx
            clear hra hrs hkey hbel hq hx hxI
            go_wp2_with (refine wp_load_whole rfl 23 _ rfl w3.heap.size rfl 23 16 _ _ _ HKey.out rfl (key_cs _) Tryz.underlying23 rfl key_size ?_)
            refine (HNk.out _).mono ?_
            rintro e w5 ⟨rfl, hB5⟩
            have HRow5 := Lib.hid (HRow.out.of_block (hB5.block _ HRow.out.lt))
            have HRs5 := Lib.hid (HRsv.out.of_block (hB5.block _ HRsv.out.lt))
            have HKey5 := Lib.hid (HKey.out.of_block (hB5.block _ HKey.out.lt))
            have HB5 := Lib.hid (belowB_then HB.out HB.out.size hB5)
            have c1 := HRow5.out.cell (i := x) hik
            have c2' := HRow5.out.cell (i := q) (by omega)
            have z1 := HRow5.out.frozen x
            have z2 := HRow5.out.frozen q
            have p20 := HRs5.out.cell (i := 20) (by omega)
            dsimp only [ssF] at p20
            rw [if_neg (by omega)] at p20
            have hq64 : q < 9223372036854775808 := by omega
            clear hB5
            by_cases hqe : q = x
            · subst hqe
              clear c2' z2
              go_wp2_with fail
              go_region
              go_wp2
              go_roundw
              case rel =>
                have hi := HI.out
                refine ⟨j + 1, Or.inr (by omega), by congr 1; omega, ?_, (((HRs5.out.setOther hne _).setOther hne _).of_block rfl), (((HKey5.out.setOther hne3 _).setOther hne3 _).of_block rfl), ((HB5.out.setCell (p := ⟨ba, q, none⟩) hba _).setCell (p := ⟨ba, q, none⟩) hba _).drew⟩
                have h := rowI_swp HRow5.out q q
                show World.rowIs _ _ _ _ (fun x => .int .i64 (_root_.Hd.swp (arr (fun i => numN (derN K 70 0) i (i + 1)) i j) (i - 1 - j) (numN (derN K 70 0) (i - 1 - j) (i - 1 - j + 1)) x : Nat))
                rw [← hi, ← HQ.out]
                exact h
              case measure => simp [intOf]
            · have hqe2 : x ≠ q := fun h => hqe h.symm
              go_wp2_with fail
              go_region
              go_wp2
              go_roundw
              case rel =>
                have hi := HI.out
                refine ⟨j + 1, Or.inr (by omega), by congr 1; omega, ?_, (((HRs5.out.setOther hne _).setOther hne _).of_block rfl), (((HKey5.out.setOther hne3 _).setOther hne3 _).of_block rfl), ((HB5.out.setCell (p := ⟨ba, x, none⟩) hba _).setCell (p := ⟨ba, q, none⟩) hba _).drew⟩
                have h := rowI_swp HRow5.out x q
                show World.rowIs _ _ _ _ (fun x => .int .i64 (_root_.Hd.swp (arr (fun i => numN (derN K 70 0) i (i + 1)) i j) (i - 1 - j) (numN (derN K 70 0) (i - 1 - j) (i - 1 - j + 1)) x : Nat))
                rw [← hi, ← HQ.out]
                exact h
              case measure => simp [intOf]
          · have hI : (i : Int) - 1 - (j : Int) < 1 := by omega
            have HRf : Hid (W5.rowIs ba 3 i (fun x => .int .i64 (arN K i x : Nat))) := HRow.out.congr fun x hx => by
              have : j = i - 1 := by omega
              rw [this]; rfl
            clear hra hrs hkey hbel
            go_wp2
            go_ret2
            exact ⟨bs, ba, rfl, HRsv.out, HRf.out, by omega, by omega, below_then HB1.out HB.out⟩
end Go.Proofs.YtmbokpfgnicboaaGreat

/- The walks of codes of steps: the reference's words. -/
namespace Go.Proofs.YtmbokpfgnicboaaGreat
open Go.RowKit Go.Hd Go.Sort _root_.Hd

set_option maxRecDepth 100000 in
set_option maxHeartbeats 1000000 in
theorem rstepsword_any (U d : Nat) (K : Nat → Nat) (v u : Value) (x : Nat) (w : World) (hK : Kb K) (hU2 : 2 ≤ U) (hU : U ≤ 16) (hd1 : 1 ≤ d) (hd : d ≤ 64) (hx : x < U) (hv : ∃ A n c, v = .slice A n c) (hu : ∃ A n c, u = .slice A n c) :
    Calls Tryz.prog 68 #[stV (U : Int) (d : Int) K v u, .int .i64 x] w fun e w' => ∃ b, e = .returned (.slice (some ⟨b, 0, none⟩) ((U - 1) * d) ((U - 1) * d)) ∧ w'.rowIs b 5 ((U - 1) * d) (fun i => .int .u8 (mrk (arN K ((U - 1) * d)) (x * d) ((U - 1) * d) i : Nat)) ∧ Below w.heap.size w w' := by
  have HS := Lib.hid (st_row w (U : Int) (d : Int) K v u 29)
  obtain ⟨A, n', c, rfl⟩ := hv
  obtain ⟨A2, m', c2, rfl⟩ := hu
  have hNU : (U - 1) * d ≤ 15 * 64 := Nat.mul_le_mul (by omega) hd
  have hNI : ((U : Int) - 1) * (d : Int) = (((U - 1) * d : Nat) : Int) := by rw [Int.natCast_mul, show ((U - 1 : Nat) : Int) = (U : Int) - 1 by omega]
  generalize (U - 1) * d = N at *
  have HAr := Lib.hid (fun W => rarranged_any K N W hK (by omega))
  have hmk := run_make_row' (P := Tryz.prog) 30 5 (.int .u8 0) 1 Tryz.underlying30 infoU8 rfl .i64 .i64 N (by omega) (by omega)
  have k0 : (w.alloc (.cells #[.int .i64 (U : Int), .int .i64 (d : Int), .int .u8 (K 0), .int .u8 (K 1), .int .u8 (K 2), .int .u8 (K 3), .int .u8 (K 4), .int .u8 (K 5), .int .u8 (K 6), .int .u8 (K 7), .int .u8 (K 8), .int .u8 (K 9), .int .u8 (K 10), .int .u8 (K 11), .int .u8 (K 12), .int .u8 (K 13), .int .u8 (K 14), .int .u8 (K 15), (.slice A n' c), (.slice A2 m' c2)] 29)).cell? ⟨w.heap.size, 0, none⟩ = some (.int .i64 U) := HS.out.cell (i := 0) (by omega)
  have k1 : (w.alloc (.cells #[.int .i64 (U : Int), .int .i64 (d : Int), .int .u8 (K 0), .int .u8 (K 1), .int .u8 (K 2), .int .u8 (K 3), .int .u8 (K 4), .int .u8 (K 5), .int .u8 (K 6), .int .u8 (K 7), .int .u8 (K 8), .int .u8 (K 9), .int .u8 (K 10), .int .u8 (K 11), .int .u8 (K 12), .int .u8 (K 13), .int .u8 (K 14), .int .u8 (K 15), (.slice A n' c), (.slice A2 m' c2)] 29)).cell? ⟨w.heap.size, 1, none⟩ = some (.int .i64 d) := HS.out.cell (i := 1) (by omega)
  have hw2 : IntKind.i64.wrap (((U : Int) - 1) * (d : Int)) = (N : Int) := by rw [hNI, IntKind.wrap_i64]; omega
  have hw3 : IntKind.i64.wrap (N : Int) = (N : Int) := by rw [IntKind.wrap_i64]; omega
  have HX : Hid (∀ i : Nat, ((x : Int) ≤ (i : Int) / (d : Int) ↔ x * d ≤ i)) := fun i => by
    rw [← Int.natCast_ediv, Int.ofNat_le, Nat.le_div_iff_mul_le (by omega)]
  go_enter Tryz.func68, Tryz.ntmps68
  go_wp2_with (refine wp_load_cells rfl 23 _ rfl w.heap.size 2 rfl 16 _ _ _ (st_key HS.out) rfl (key_cs K) Tryz.underlying23 rfl key_size ?_)
  refine (HAr.out _).mono ?_
  rintro e w1 ⟨ba, rfl, hrow, hB1⟩
  have HRa := Lib.hid hrow
  have HB1 := Lib.hid (below_then ((Below.refl _ w).alloc (Nat.le_refl _) (.cells #[.int .i64 (U : Int), .int .i64 (d : Int), .int .u8 (K 0), .int .u8 (K 1), .int .u8 (K 2), .int .u8 (K 3), .int .u8 (K 4), .int .u8 (K 5), .int .u8 (K 6), .int .u8 (K 7), .int .u8 (K 8), .int .u8 (K 9), .int .u8 (K 10), .int .u8 (K 11), .int .u8 (K 12), .int .u8 (K 13), .int .u8 (K 14), .int .u8 (K 15), (.slice A n' c), (.slice A2 m' c2)] 29)) hB1)
  have hba := hrow.lt
  have k1' := cell_below hB1 k1
  have HRa' := Lib.hid (hrow.alloc (.cells (madeCells #[.int .u8 0] N) 5))
  clear hrow hB1 k0 k1 HS
  go_wp2_with fail
  go_loopw [7] (fun s7 wr => ∃ i : Nat, i ≤ N ∧ s7 = .int .i64 i ∧ wr.rowIs w1.heap.size 5 N (fun p => .int .u8 (mrk (arN K N) (x * d) i p : Nat)) ∧ Below w1.heap.size w1 wr) (fun s7 _ => N - (intOf s7).toNat)
  case atStart => exact ⟨0, Nat.zero_le _, rfl, World.rowIs_made w1 _ N _, (Below.refl _ _).alloc (Nat.le_refl _) _⟩
  case round =>
    obtain ⟨i, hi, rfl, hrow, hbel⟩ := hrel
    obtain ⟨W0, rfl⟩ : ∃ W0 : World, W0 = wr := ⟨_, rfl⟩
    have HRow := Lib.hid hrow
    have HB := Lib.hid hbel
    have p1 := cell_below hbel k1'
    by_cases hlt : i < N
    · have hc := cell_below hbel (HRa.out.cell (i := i) hlt)
      have hat := arN_lt K hlt
      have hXi := HX.out i
      obtain ⟨q, hq⟩ : ∃ q, q = arN K N i := ⟨_, rfl⟩
      rw [← hq] at hc hat
      have hc2 := hrow.cell (i := q) hat
      have hz2 := hrow.frozen q
      have hdI : (1 : Int) ≤ (d : Int) := by omega
      have hd0 : ((d : Int) == 0) = false := beq_eq_false_iff_ne.2 (by omega)
      obtain ⟨y, hy⟩ : ∃ y : Nat, y = i / d := ⟨_, rfl⟩
      have hyI : (i : Int) / (d : Int) = (y : Int) := by rw [hy, Int.natCast_ediv]
      rw [hyI] at hXi
      have hyB : y ≤ 960 := by rw [hy]; exact Nat.le_trans (Nat.div_le_self _ _) (by omega)
      have HQ := Lib.hid hq
      have HXi := Lib.hid hXi
      clear hrow hbel hq hy hXi
      by_cases hm : (x : Int) ≤ (y : Int)
      · have HM := Lib.hid (HXi.out.1 hm)
        go_wp2
        go_roundw
        case rel =>
          refine ⟨i + 1, by omega, by go_num, ?_, HB.out.setCell (p := ⟨w1.heap.size, q, none⟩) (Nat.le_refl _) _⟩
          rw [mrk_yes _ HM.out, ← HQ.out]
          exact rowIs_upd HRow.out q 1 _ rfl
        case measure => simp [intOf]; omega
      · have HM : Hid (¬ x * d ≤ i) := fun h => hm (HXi.out.2 h)
        go_wp2
        go_roundw
        case rel => exact ⟨i + 1, by omega, by go_num, HRow.out.congr (fun p hp => by rw [mrk_no _ HM.out]), HB.out⟩
        case measure => simp [intOf]; omega
    · obtain rfl : i = N := by omega
      clear hrow hbel
      go_wp2
      go_ret
      exact ⟨w1.heap.size, rfl, HRow.out, below_then HB1.out HB.out⟩
end Go.Proofs.YtmbokpfgnicboaaGreat

/- The walks of codes of steps: the program's words and weights. -/
namespace Go.Proofs.YtmbokpfgnicboaaGreat
open Go.RowKit Go.Hd Go.Sort _root_.Hd

/-- Where a code of steps with its arrangement lies. -/
def SsAt (w : World) (bs ba U d : Nat) (K : Nat → Nat) (v u : Value) : Prop := w.rowIs bs 164 21 (ssF (U : Int) (d : Int) K v u (.slice (some ⟨ba, 0, none⟩) ((U - 1) * d) ((U - 1) * d))) ∧ w.rowIs ba 3 ((U - 1) * d) (fun i => .int .i64 (arN K ((U - 1) * d) i : Nat))
theorem SsAt.below {w w' : World} {bs ba U d : Nat} {K : Nat → Nat} {v u : Value} (h : SsAt w bs ba U d K v u) (hb : Below w.heap.size w w') : SsAt w' bs ba U d K v u :=
  ⟨h.1.of_block (hb.block _ h.1.lt), h.2.of_block (hb.block _ h.2.lt)⟩
theorem SsAt.cells {w : World} {bs ba U d : Nat} {K : Nat → Nat} {v u : Value} (h : SsAt w bs ba U d K v u) : w.cell? ⟨bs, 0, none⟩ = some (.int .i64 U) ∧ w.cell? ⟨bs, 1, none⟩ = some (.int .i64 d) ∧ w.cell? ⟨bs, 20, none⟩ = some (.slice (some ⟨ba, 0, none⟩) ((U - 1) * d) ((U - 1) * d)) :=
  ⟨h.1.cell (i := 0) (by omega), h.1.cell (i := 1) (by omega), h.1.cell (i := 20) (by omega)⟩

set_option maxRecDepth 100000 in
set_option maxHeartbeats 1000000 in
theorem word_any (bs ba U d : Nat) (K : Nat → Nat) (v u : Value) (x : Nat) (w : World) (hS : SsAt w bs ba U d K v u) (hU2 : 2 ≤ U) (hU : U ≤ 16) (hd1 : 1 ≤ d) (hd : d ≤ 64) (hx : x < U) :
    Calls Tryz.prog 67 #[.pointer (some ⟨bs, 0, none⟩), .int .i64 x] w fun e w' => ∃ b, e = .returned (.slice (some ⟨b, 0, none⟩) ((U - 1) * d) ((U - 1) * d)) ∧ w'.rowIs b 5 ((U - 1) * d) (fun i => .int .u8 (mrk (arN K ((U - 1) * d)) (x * d) ((U - 1) * d) i : Nat)) ∧ w.heap.size ≤ b ∧ Below w.heap.size w w' := by
  have hNU : (U - 1) * d ≤ 15 * 64 := Nat.mul_le_mul (by omega) hd
  have hxN : x * d ≤ (U - 1) * d := Nat.mul_le_mul_right _ (by omega)
  obtain ⟨k0, k1, k20⟩ := hS.cells
  have HRa := Lib.hid hS.2
  have hbs := hS.1.lt
  clear hS
  have hxI : (x : Int) * (d : Int) = ((x * d : Nat) : Int) := (Int.natCast_mul _ _).symm
  generalize (U - 1) * d = N at *
  have hmk := run_make_row' (P := Tryz.prog) 30 5 (.int .u8 0) 1 Tryz.underlying30 infoU8 rfl .i64 .i64 N (by omega) (by omega)
  generalize x * d = s at *
  have hw2 : IntKind.i64.wrap ((x : Int) * (d : Int)) = (s : Int) := by rw [hxI, IntKind.wrap_i64]; omega
  have hw3 : IntKind.i64.wrap (s : Int) = (s : Int) := by rw [IntKind.wrap_i64]; omega
  have hz := World.rowIs_made w (.int .u8 0) N 5
  have HZ := Lib.hid hz
  clear hz
  go_enter Tryz.func67, Tryz.ntmps67
  go_wp2_with fail
  go_loopw [6] (fun s6 wr => ∃ i : Nat, s ≤ i ∧ i ≤ N ∧ s6 = .int .i64 i ∧ wr.rowIs w.heap.size 5 N (fun p => .int .u8 (mrk (arN K N) s i p : Nat)) ∧ Below w.heap.size w wr) (fun s6 _ => N - (intOf s6).toNat)
  case atStart => exact ⟨s, Nat.le_refl _, hxN, rfl, HZ.out.congr (fun p hp => by rw [mrk_none _ _ _ (Nat.le_refl _)]; rfl), (Below.refl _ _).alloc (Nat.le_refl _) _⟩
  case round =>
    obtain ⟨i, his, hi, rfl, hrow, hbel⟩ := hrel
    obtain ⟨W0, rfl⟩ : ∃ W0 : World, W0 = wr := ⟨_, rfl⟩
    have HRow := Lib.hid hrow
    have HB := Lib.hid hbel
    have p1 := cell_below hbel k1
    have p20 := cell_below hbel k20
    by_cases hlt : i < N
    · have hc := cell_below hbel (HRa.out.cell (i := i) hlt)
      have hat := arN_lt K hlt
      obtain ⟨q, hq⟩ : ∃ q, q = arN K N i := ⟨_, rfl⟩
      rw [← hq] at hc hat
      have hc2 := hrow.cell (i := q) hat
      have hz2 := hrow.frozen q
      have HQ := Lib.hid hq
      clear hrow hbel hq
      go_wp2
      go_roundw
      case rel =>
        refine ⟨i + 1, by omega, by omega, by go_num, ?_, HB.out.setCell (p := ⟨w.heap.size, q, none⟩) (Nat.le_refl _) _⟩
        rw [mrk_yes _ his, ← HQ.out]
        exact rowIs_upd HRow.out q 1 _ rfl
      case measure => simp [intOf]; omega
    · obtain rfl : i = N := by omega
      clear hrow hbel
      go_wp2
      go_ret
      exact ⟨w.heap.size, rfl, HRow.out, Nat.le_refl _, HB.out⟩

set_option maxRecDepth 100000 in
set_option maxHeartbeats 1000000 in
theorem weights_any (bs ba U d : Nat) (K : Nat → Nat) (v u : Value) (y : Nat → Nat) (ys : Value) (w : World) (hS : SsAt w bs ba U d K v u) (hy : Rd w .u8 ys ((U - 1) * d) y) (hy6 : ∀ j, j < (U - 1) * d → y j < 256) (hU2 : 2 ≤ U) (hU : U ≤ 16) (hd1 : 1 ≤ d) (hd : d ≤ 64) :
    Calls Tryz.prog 72 #[.pointer (some ⟨bs, 0, none⟩), ys] w fun e w' => ∃ b, e = .returned (.slice (some ⟨b, 0, none⟩) (U - 1) (U - 1)) ∧ w'.rowIs b 3 (U - 1) (fun i => .int .i64 (wts (arN K ((U - 1) * d)) y d ((U - 1) * d) i : Nat)) ∧ w.heap.size ≤ b ∧ Below w.heap.size w w' := by
  have hNU : (U - 1) * d ≤ 15 * 64 := Nat.mul_le_mul (by omega) hd
  have hNp : 0 < (U - 1) * d := Nat.mul_pos (by omega) (by omega)
  obtain ⟨k0, k1, k20⟩ := hS.cells
  have HRa := Lib.hid hS.2
  have hbs := hS.1.lt
  clear hS
  have HDv : Hid (∀ i, i < (U - 1) * d → i / d < U - 1) := fun i hi => (Nat.div_lt_iff_lt_mul (by omega)).2 hi
  generalize (U - 1) * d = N at *
  obtain ⟨Ay, cy, rfl, _, _, h3⟩ := hy
  obtain ⟨by', offy, rfl, hcy⟩ := h3 hNp
  have HY := Lib.hid hcy
  have HY6 := Lib.hid hy6
  clear h3 hcy hy6
  have hmk := run_make_row' (P := Tryz.prog) 38 3 (.int .i64 0) 8 Tryz.underlying38 infoInt3 rfl .i64 .i64 (U - 1) (by omega) (by omega)
  have hU1 : ((U - 1 : Nat) : Int) = (U : Int) - 1 := by omega
  rw [hU1] at hmk
  obtain ⟨M, hM⟩ : ∃ M, M = U - 1 := ⟨_, rfl⟩
  rw [← hM] at hmk HDv hU1 ⊢
  have hz := World.rowIs_made w (.int .i64 0) M 3
  have HZ := Lib.hid hz
  have HM := Lib.hid hM
  have hM16 : M ≤ 16 := by omega
  clear hz hM hU1
  go_enter Tryz.func72, Tryz.ntmps72
  go_wp2_with fail
  go_loopw [20] (fun s20 wr => ∃ i : Nat, i ≤ N ∧ s20 = .int .i64 i ∧ wr.rowIs w.heap.size 3 M (fun p => .int .i64 (wts (arN K N) y d i p : Nat)) ∧ Below w.heap.size w wr) (fun s20 _ => N - (intOf s20).toNat)
  case atStart => exact ⟨0, Nat.zero_le _, rfl, HZ.out, (Below.refl _ _).alloc (Nat.le_refl _) _⟩
  case round =>
    obtain ⟨i, hi, rfl, hrow, hbel⟩ := hrel
    obtain ⟨W0, rfl⟩ : ∃ W0 : World, W0 = wr := ⟨_, rfl⟩
    have HRow := Lib.hid hrow
    have HB := Lib.hid hbel
    have p1 := cell_below hbel k1
    by_cases hlt : i < N
    · have hc := cell_below hbel (HRa.out.cell (i := i) hlt)
      have hat := arN_lt K hlt
      obtain ⟨q, hq⟩ : ∃ q, q = arN K N i := ⟨_, rfl⟩
      rw [← hq] at hc hat
      have hcy := cell_below hbel (HY.out q hat)
      have hy6 := HY6.out q hat
      have HQ := Lib.hid hq
      obtain ⟨z, hz⟩ : ∃ z : Nat, z = i / d := ⟨_, rfl⟩
      have hzI : (i : Int) / (d : Int) = (z : Int) := by rw [hz, Int.natCast_ediv]
      have hzM : z < M := by rw [hz]; exact HDv.out i hlt
      have hc2 := hrow.cell (i := z) hzM
      have hz2 := hrow.frozen z
      have hwle : wts (arN K N) y d i z ≤ d := wts_d (by omega) i z
      have HZz := Lib.hid hz
      have hdI : (1 : Int) ≤ (d : Int) := by omega
      have hd0 : ((d : Int) == 0) = false := beq_eq_false_iff_ne.2 (by omega)
      by_cases hy1 : y q = 1
      · have HW : Hid (wts (arN K N) y d (i + 1) = upd (wts (arN K N) y d i) z (wts (arN K N) y d i z + 1)) := by
          show _ = _
          rw [wts_yes (by rw [← hq]; exact hy1), ← hz]
        rw [hy1] at hcy
        clear hrow hbel hq hz hy1
        generalize wts (arN K N) y d i z = c at *
        go_wp2
        go_roundw
        case rel =>
          refine ⟨i + 1, by omega, by go_num, ?_, HB.out.setCell (p := ⟨w.heap.size, z, none⟩) (Nat.le_refl _) _⟩
          rw [HW.out]
          exact rowIs_upd HRow.out z _ _ (by omega)
        case measure => simp [intOf]; omega
      · have HW : Hid (wts (arN K N) y d (i + 1) = wts (arN K N) y d i) := wts_no (by rw [← hq]; exact hy1)
        have hyI : ((y q : Nat) : Int) ≠ 1 := by omega
        have hyb : (((y q : Nat) : Int) == 1) = false := beq_eq_false_iff_ne.2 hyI
        clear hrow hbel hq hz hy1
        go_wp2
        go_roundw
        case rel => exact ⟨i + 1, by omega, by go_num, HRow.out.congr (fun p hp => by rw [HW.out]), HB.out⟩
        case measure => simp [intOf]; omega
    · obtain rfl : i = N := by omega
      clear hrow hbel
      go_wp2
      go_ret
      exact ⟨w.heap.size, rfl, HRow.out, Nat.le_refl _, HB.out⟩
end Go.Proofs.YtmbokpfgnicboaaGreat

/- The walks of codes of steps: who is named. -/
namespace Go.Proofs.YtmbokpfgnicboaaGreat
open Go.RowKit Go.Hd Go.Sort _root_.Hd
set_option exponentiation.threshold 2000

theorem SsAt.st {w : World} {bs ba U d : Nat} {K : Nat → Nat} {v u : Value} (h : SsAt w bs ba U d K v u) : ∀ j, j < 20 → w.cell? ⟨bs, j, none⟩ = some (stF (U : Int) (d : Int) K v u j) := fun j hj => by
  rw [h.1.cell (i := j) (by omega)]
  unfold ssF
  rw [if_pos hj]

set_option maxRecDepth 100000 in
set_option maxHeartbeats 2000000 in
theorem names_any (bs ba U d m n : Nat) (K : Nat → Nat) (v u : Value) (y : Nat → Nat) (ys : Value) (w : World) (hS : SsAt w bs ba U d K v u) (hv : Nt w v m) (hu : Nt w u n) (hm : m < B ^ 4) (hn : n < B ^ 4) (hy : Rd w .u8 ys ((U - 1) * d) y) (hy6 : ∀ j, j < (U - 1) * d → y j < 256) (hU2 : 2 ≤ U) (hU : U ≤ 16) (hd1 : 1 ≤ d) (hd : d ≤ 64) :
    Calls Tryz.prog 75 #[.pointer (some ⟨bs, 0, none⟩), ys] w fun e w' => ∃ sl, e = .returned sl ∧ RdV w' sl (nmL U d m n (wts (arN K ((U - 1) * d)) y d ((U - 1) * d)) U).length (fun j => .int .i64 ((nmL U d m n (wts (arN K ((U - 1) * d)) y d ((U - 1) * d)) U).getD j 0 : Nat)) ∧ Below w.heap.size w w' := by
  have HWt := Lib.hid (weights_any bs ba U d K v u y ys w hS hy hy6 hU2 hU hd1 hd)
  have HWd := Lib.hid (fun b => wts_d (a := arN K ((U - 1) * d)) (y := y) hd1 ((U - 1) * d) b)
  obtain ⟨Ay, ny, cy, rfl⟩ : ∃ A n c, ys = .slice A n c := by obtain ⟨A, c, h, _⟩ := hy; exact ⟨_, _, _, h⟩
  generalize wts (arN K ((U - 1) * d)) y d ((U - 1) * d) = W at *
  have HS := Lib.hid hS
  have HV := Lib.hid hv
  have HU := Lib.hid hu
  obtain ⟨A1, n1, c1, rfl⟩ := hv.shape
  obtain ⟨A2, n2, c2, rfl⟩ := hu.shape
  clear hS hv hu hy hy6
  go_enter Tryz.func75, Tryz.ntmps75
  go_wp2_with fail
  refine HWt.out.mono ?_
  rintro e w1 ⟨bw, rfl, hrow, hbw, hB1⟩
  have HB1 := Lib.hid hB1
  have HS1 := Lib.hid (HS.out.below hB1)
  have HRow := Lib.hid hrow
  obtain ⟨k0, k1, _⟩ := HS1.out.cells
  have HE : Hid (w1.ownsRow w1.heap.size 3 1 (.slice none 0 0) 0 []) := World.ownsRow_nil _ _ _ _
  clear hrow hbw hB1
  go_wp2_with fail
  go_loopw [6, 17] (fun s6 s17 wr => ∃ k : Nat, k ≤ U ∧ s17 = .int .i64 k ∧ Hid (wr.ownsRow w1.heap.size 3 1 s6 (nmL U d m n W k).length ((nmL U d m n W k).map fun x => .int .i64 (x : Nat))) ∧ Below w1.heap.size w1 wr) (fun _ s17 _ => U - (intOf s17).toNat)
  case atStart => exact ⟨0, Nat.zero_le _, rfl, HE.out, Below.refl _ _⟩
  case round =>
    obtain ⟨k, hk, rfl, hown, hbel⟩ := hrel
    obtain ⟨W0, rfl⟩ : ∃ W0 : World, W0 = wr := ⟨_, rfl⟩
    have HBel := Lib.hid hbel
    have hsz := hbel.size
    obtain ⟨A6, c6, rfl⟩ := own_slice hown.out
    by_cases hlt : k < U
    · have HS0 := Lib.hid (HS1.out.below hbel)
      obtain ⟨b, hb⟩ : ∃ b, b = nmd U d m n W k := ⟨_, rfl⟩
      have HNb := Lib.hid hb
      have HWr : Hid (∀ j, j < U - 1 → W0.cell? ⟨bw, j, none⟩ = some (.int .i64 (W j : Nat))) := fun j hj => cell_below HBel.out (HRow.out.cell hj)
      have p0 := cell_below hbel k0
      have p1 := cell_below hbel k1
      clear hbel hb
      go_upto_block 2 with fail
      go_cut [8] (fun s8 wx => s8 = .bool b ∧ Below W0.heap.size W0 wx)
      case first =>
        by_cases hk0 : k = 0
        · subst hk0
          have c0 := HWr.out 0 (by omega)
          have hnb := HNb.out
          rw [nmd_first] at hnb
          by_cases h0 : 0 < W 0
          · have HT : Hid (b = true) := by show _ = _; rw [hnb]; exact decide_eq_true h0
            clear hnb
            go_wp2_with fail
            go_meet
            case rel => exact ⟨by rw [HT.out], Below.refl _ _⟩
          · have HT : Hid (b = false) := by show _ = _; rw [hnb]; exact decide_eq_false h0
            clear hnb
            go_wp2_with fail
            go_meet
            case rel => exact ⟨by rw [HT.out], Below.refl _ _⟩
        · have hk0b : ((k : Int) == 0) = false := beq_eq_false_iff_ne.2 (by omega)
          obtain ⟨q, hq⟩ : ∃ q, q = k - 1 := ⟨_, rfl⟩
          have hqI : (k : Int) - 1 = (q : Int) := by omega
          have cq := HWr.out q (by omega)
          have hqM : (q : Int) < ((U - 1 : Nat) : Int) := by omega
          have hUI : ((U - 1 : Nat) : Int) = (U : Int) - 1 := by omega
          have hqN : q < U - 1 := by omega
          have hwq : IntKind.i64.wrap ((k : Int) - 1) = (q : Int) := by rw [IntKind.wrap_i64]; omega
          have hq0 : (0 : Int) ≤ (q : Int) := by omega
          have hwq2 : IntKind.i64.wrap (q : Int) = (q : Int) := by rw [IntKind.wrap_i64]; omega
          have HQd := Lib.hid (HWd.out q)
          have HQ := Lib.hid hq
          by_cases hkl : k = U - 1
          · have hklb : ((k : Int) == (U : Int) - 1) = true := by rw [beq_iff_eq]; omega
            have hnb := HNb.out
            rw [nmd_last hk0 hkl, ← hq] at hnb
            have hwU : IntKind.i64.wrap ((U : Int) - 1) = (U : Int) - 1 := by rw [IntKind.wrap_i64]; omega
            by_cases h0 : W q < d
            · have HT : Hid (b = true) := by show _ = _; rw [hnb]; exact decide_eq_true h0
              clear hnb hq hkl hk0
              generalize W q = x at *
              go_wp2_with fail
              go_quiet (fail)
              go_wp2_with fail
              go_meet
              case rel => exact ⟨by rw [HT.out], below_drewN (Below.refl _ _) _⟩
            · have HT : Hid (b = false) := by show _ = _; rw [hnb]; exact decide_eq_false h0
              clear hnb hq hkl hk0
              generalize W q = x at *
              go_wp2_with fail
              go_quiet (fail)
              go_wp2_with fail
              go_meet
              case rel => exact ⟨by rw [HT.out], below_drewN (Below.refl _ _) _⟩
          · have hklb : ((k : Int) == (U : Int) - 1) = false := beq_eq_false_iff_ne.2 (by omega)
            have hnb := HNb.out
            rw [nmd_mid hk0 hkl, ← hq] at hnb
            have ck := HWr.out k (by omega)
            have hkM : (k : Int) < ((U - 1 : Nat) : Int) := by omega
            have hkN : k < U - 1 := by omega
            have hqU : (q : Int) < (U : Int) - 1 := by omega
            have hkU : (k : Int) < (U : Int) - 1 := by omega
            have HKd := Lib.hid (HWd.out k)
            have hwU : IntKind.i64.wrap ((U : Int) - 1) = (U : Int) - 1 := by rw [IntKind.wrap_i64]; omega
            obtain ⟨t, ht⟩ : ∃ t, t = W q + W k := ⟨_, rfl⟩
            rw [← ht] at hnb
            have HQq : Hid (∀ dd os, Calls Tryz.prog 106 #[stV (U : Int) (d : Int) K (.slice A1 n1 c1) (.slice A2 n2 c2), .int .i64 t] (grow (redrawn W0 dd) os) fun e w'' => e = .returned (.int .i64 (thr d m n t)) ∧ ∃ p : Regrown, w'' = grow (redrawn W0 p.d) p.os) := fun dd os => Calls.regrown_of (threshold_any (U : Int) d t m n K _ _ _ (HV.out.below (below_then HB1.out (below_then HBel.out (below_regrown W0 dd os)))) (HU.out.below (below_then HB1.out (below_then HBel.out (below_regrown W0 dd os)))) hd (by have := HQd.out; have := HKd.out; omega) hm hn)
            have kcq := cell_regrown cq
            have kck := cell_regrown ck
            have htw : IntKind.i64.wrap (((W q : Nat) : Int) + ((W k : Nat) : Int)) = (t : Int) := by have := HQd.out; have := HKd.out; rw [IntKind.wrap_i64]; omega
            have hk0I : (0 : Int) ≤ (k : Int) := by omega
            clear hq hkl hk0 ht
            generalize W q = x at *
            generalize W k = x2 at *
            generalize thr d m n t = th at *
            by_cases h0 : (x : Int) ≤ th
            · have HT : Hid (b = true) := by show _ = _; rw [hnb]; exact decide_eq_true h0
              clear hnb
              go_wp2_with fail
              refine wp_region_quiet_below (by kernel_rfl) (by kernel_rfl) ?_
              repeat (quiet_step (fail))
              refine quiet_load_cells rfl 29 _ rfl bs 0 rfl 20 _ _ _ (fun W hW j hj => by obtain ⟨p, rfl⟩ := hW; rw [Nat.zero_add]; exact cell_regrown (HS0.out.st j hj) _ _) rfl (st_cs _ _ _ _ _) Tryz.underlying29 rfl st_size ?_
              repeat (quiet_step (exact HQq.out _ _))
              refine wpQuiet_nil ?_
              intro w4 hw4
              have hb4 : Below W0.heap.size W0 w4 := by obtain ⟨p, rfl⟩ := hw4; exact below_regrown _ _ _
              have HB4 := Lib.hid hb4
              clear hb4 hw4
              go_wp2_with fail
              go_meet
              case rel => exact ⟨by rw [HT.out], HB4.out⟩
            · have HT : Hid (b = false) := by show _ = _; rw [hnb]; exact decide_eq_false h0
              clear hnb
              go_wp2_with fail
              refine wp_region_quiet_below (by kernel_rfl) (by kernel_rfl) ?_
              repeat (quiet_step (fail))
              refine quiet_load_cells rfl 29 _ rfl bs 0 rfl 20 _ _ _ (fun W hW j hj => by obtain ⟨p, rfl⟩ := hW; rw [Nat.zero_add]; exact cell_regrown (HS0.out.st j hj) _ _) rfl (st_cs _ _ _ _ _) Tryz.underlying29 rfl st_size ?_
              repeat (quiet_step (exact HQq.out _ _))
              refine wpQuiet_nil ?_
              intro w4 hw4
              have hb4 : Below W0.heap.size W0 w4 := by obtain ⟨p, rfl⟩ := hw4; exact below_regrown _ _ _
              have HB4 := Lib.hid hb4
              clear hb4 hw4
              go_wp2_with fail
              go_meet
              case rel => exact ⟨by rw [HT.out, decide_eq_false (by omega)], HB4.out⟩
      case rest =>
        obtain ⟨rfl, hbx⟩ := hcut
        have HBx := Lib.hid (below_then HBel.out hbx)
        have HOx := Lib.hid (own_below hown.out hbx)
        have hszx := hbx.size
        clear hbx hown
        cases b with
        | true =>
          have HL := Lib.hid (nmL_yes HNb.out.symm)
          go_wp2_with (at_builtin; refine wp_app w1.heap.size rfl _ _ 38 3 (.int .i64 0) 8 rfl Tryz.underlying38 infoInt3 rfl (by decide) (.slice A6 _ c6) _ rfl _ 1 (fun _ => .int .i64 (k : Nat)) rfl (rdV_one _ _ _) (fun _ _ => rfl) (by rw [List.length_map]; exact own_below HOx.out ((Below.refl _ _).alloc (Nat.le_refl _) _)) (by simp; omega) (by simp; have := nmL_len U d m n k W; omega) ?_; intro v5 w5 hown5 hg5; have HO5 := Lib.hid hown5; have HG5 := Lib.hid hg5; clear hown5 hg5)
          go_roundw
          case rel =>
            refine ⟨k + 1, by omega, by go_num, ?_, ?_⟩
            · have h := HO5.out
              rw [List.length_map] at h
              rw [HL.out, List.map_append, List.length_append]
              exact h
            · exact below_own ((HBx.out.alloc (by omega) _)) (own_below HOx.out ((Below.refl _ _).alloc (Nat.le_refl _) _)) HG5.out (by simp; omega)
          case measure => simp [intOf]; omega
        | false =>
          have HL := Lib.hid (nmL_no HNb.out.symm)
          go_wp2_with fail
          go_roundw
          case rel => exact ⟨k + 1, by omega, by go_num, by rw [HL.out]; exact HOx.out, HBx.out⟩
          case measure => simp [intOf]; omega
    · obtain rfl : k = U := by omega
      clear hbel
      go_wp2
      go_ret
      exact ⟨_, rfl, rdV_of_own hown.out _ (fun j hj => by simp [List.getD_eq_getElem?_getD, hj]), below_then HB1.out HBel.out⟩
end Go.Proofs.YtmbokpfgnicboaaGreat
