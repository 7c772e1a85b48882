import Derived.Test.YtmbokpfgnicboaaGreatSm
import Derived.Test.YtmbokpfgnicboaaGreatPerm
set_option linter.unusedVariables false
set_option linter.unusedSimpArgs false
/- The walks of codes of steps: the reference's arrangement. -/
namespace Go.Proofs.YtmbokpfgnicboaaGreat
open Go.RowKit Go.Hd Go.Sort _root_.Hd

/-- The place of each column. -/
def arN (K : Nat → Nat) (n : Nat) : Nat → Nat := arr (fun i => numN (derN K 70 0) i (i + 1)) n (n - 1)
theorem numN_le (K : Nat → Nat) (i : Nat) : numN K i (i + 1) ≤ i := by
  unfold numN
  rw [if_neg (Nat.succ_ne_zero _)]
  exact Nat.le_of_lt_succ (Nat.mod_lt _ (Nat.succ_pos _))
theorem arN_lt (K : Nat → Nat) {n x : Nat} (h : x < n) : arN K n x < n := arr_lt (fun i _ => numN_le _ i) (n - 1) (by omega) x h
theorem infoInt3 : (Tryz.prog.info? 3).map (fun i => (i.zero, i.size, i.bytes)) = some (some (.int .i64 0), 1, 8) := by kernel_rfl

theorem rowI_swp {w : World} {b N : Nat} {t : TypeId} {f : Nat → Nat} (h : w.rowIs b t N (fun x => .int .i64 (f x : Nat))) (i j : Nat) : (((w.setCell ⟨b, i, none⟩ (.int .i64 (f j : Nat))).setCell ⟨b, j, none⟩ (.int .i64 (f i : Nat))).drew).rowIs b t N (fun x => .int .i64 (_root_.Hd.swp f i j x : Nat)) :=
  (((h.set i _).set j _).of_block (w' := ((w.setCell ⟨b, i, none⟩ (.int .i64 (f j : Nat))).setCell ⟨b, j, none⟩ (.int .i64 (f i : Nat))).drew) rfl).congr fun x _ => by
    unfold _root_.Hd.swp
    by_cases e2 : x = j
    · subst e2
      rw [if_pos rfl]
      by_cases e1 : x = i
      · rw [if_pos e1, e1]
      · rw [if_neg e1, if_pos rfl]
    · rw [if_neg e2]
      by_cases e1 : x = i
      · rw [if_pos e1, if_pos e1]
      · rw [if_neg e1, if_neg e1, if_neg e2]

set_option maxRecDepth 100000 in
set_option maxHeartbeats 1000000 in
theorem rarranged_any (K : Nat → Nat) (n : Nat) (w : World) (hK : Kb K) (hn : n ≤ 2000) :
    Calls Tryz.prog 122 #[keyV K, .int .i64 n] w fun e w' => ∃ b, e = .returned (.slice (some ⟨b, 0, none⟩) n n) ∧ w'.rowIs b 3 n (fun i => .int .i64 (arN K n i : Nat)) ∧ Below w.heap.size w w' := by
  have HD := Lib.hid (fun W => refDerive_any K 70 0 W hK (by omega) (by unfold W64; omega))
  have HN := Lib.hid (fun i (hi : i < 2000) W => refNumber_any (derN K 70 0) i (i + 1) W (derN_kb _ _ _) (by unfold W64; omega) (by unfold W64; omega))
  have hmk := run_make_row' (P := Tryz.prog) 38 3 (.int .i64 0) 8 Tryz.underlying38 infoInt3 rfl .i64 .i64 n (by omega) (by omega)
  have HS := Lib.hid (key_row w K 23)
  go_enter Tryz.func122, Tryz.ntmps122
  go_wp2_with (refine wp_load_whole rfl 23 _ rfl w.heap.size rfl 23 16 _ _ _ HS.out rfl (key_cs K) Tryz.underlying23 rfl key_size ?_)
  refine (HD.out _).mono ?_
  rintro e w1 ⟨rfl, hb⟩
  have HB1 := Lib.hid (((Below.refl w.heap.size w).alloc (Nat.le_refl _) _).trans (hb.mono (by simp)))
  have hz := zero_row w1 (fun _ => 0) (fun _ _ => rfl) 23
  have HZ := Lib.hid hz
  clear hb hz HS
  go_wp2_with (refine wp_store_whole rfl 23 _ _ rfl w1.heap.size _ rfl rfl 23 16 _ _ HZ.out rfl (key_cs _) key_size (key_one _) ?_; intro w2 hk2 hg2; have HK2 := Lib.hid hk2; have hB2 := (HB1.out.alloc HB1.out.size _).trans (below_grown hg2 (by have := HB1.out.size; omega) (by simp)); have HB2 := Lib.hid hB2; clear hk2 hg2 hB2)
  have hkl := HK2.out.lt
  go_wp2_with fail
  go_loopw [7] (fun s7 wr => ∃ k : Nat, k ≤ n ∧ s7 = .int .i64 k ∧ wr.rowIs w2.heap.size 3 n (fun i => .int .i64 ((if i < k then i else 0 : Nat))) ∧ wr.rowIs w1.heap.size 23 16 (fun i => .int .u8 (derN K 70 0 i : Nat)) ∧ Below w.heap.size w wr) (fun s7 _ => n - (intOf s7).toNat)
  case atStart =>
    exact ⟨0, Nat.zero_le _, rfl, (World.rowIs_made w2 _ n _).congr fun i hi => by rw [if_neg (by omega)]; rfl, HK2.out.alloc _, HB2.out.alloc HB2.out.size _⟩
  case round =>
    obtain ⟨k, hk, rfl, hrow, hkey, hbel⟩ := hrel
    obtain ⟨W0, rfl⟩ : ∃ W0 : World, W0 = wr := ⟨_, rfl⟩
    have HRow := Lib.hid hrow
    have HKey := Lib.hid hkey
    have HB := Lib.hid hbel
    by_cases hlt : k < n
    · have hci := hrow.cell (i := k) hlt
      have hfz := hrow.frozen k
      have hne : w1.heap.size ≠ w2.heap.size := by omega
      clear hrow hkey hbel
      go_wp2
      go_roundw
      case rel =>
        refine ⟨k + 1, by omega, by go_num, (HRow.out.set k _).congr fun i hi => ?_, HKey.out.setOther hne _, HB.out.setCell (p := ⟨w2.heap.size, k, none⟩) HB2.out.size _⟩
        by_cases e : i = k
        · subst e
          rw [if_pos rfl, if_pos (by omega)]
        · rw [if_neg e]
          by_cases h : i < k
          · rw [if_pos h, if_pos (by omega)]
          · rw [if_neg h, if_neg (by omega)]
      case measure => simp [intOf]; omega
    · obtain rfl : k = n := by omega
      clear hrow hkey hbel
      go_wp2_with fail
      go_loopw [8] (fun s8 wr => ∃ j : Nat, (j = 0 ∨ j ≤ k - 1) ∧ s8 = .int .i64 ((k : Int) - 1 - j) ∧ wr.rowIs w2.heap.size 3 k (fun i => .int .i64 (arr (fun i => numN (derN K 70 0) i (i + 1)) k j i : Nat)) ∧ wr.rowIs w1.heap.size 23 16 (fun i => .int .u8 (derN K 70 0 i : Nat)) ∧ Below w.heap.size w wr) (fun s8 _ => (intOf s8 + 1).toNat)
      case atStart => exact ⟨0, Or.inl rfl, by congr 1; omega, HRow.out.congr fun i hi => by rw [if_pos hi]; rfl, HKey.out, HB.out⟩
      case round =>
        obtain ⟨j, hj, rfl, hrow, hkey, hbel⟩ := hrel
        obtain ⟨W1, rfl⟩ : ∃ W1 : World, W1 = wr := ⟨_, rfl⟩
        have HRow := Lib.hid hrow
        have HKey := Lib.hid hkey
        have HB := Lib.hid hbel
        by_cases hlt : 1 ≤ k - 1 - j
        · obtain ⟨i, hi⟩ : ∃ i, i = k - 1 - j := ⟨_, rfl⟩
          have hiI : (k : Int) - 1 - j = (i : Int) := by omega
          rw [hiI]
          obtain ⟨q, hq⟩ : ∃ q, q = numN (derN K 70 0) i (i + 1) := ⟨_, rfl⟩
          have hqi : q ≤ i := by rw [hq]; exact numN_le _ _
          have HNk := Lib.hid (HN.out i (by omega))
          rw [← hq, show ((i + 1 : Nat) : Int) = (i : Int) + 1 by omega] at HNk
          have hik : i < k := by omega
          have hi1 : (1 : Int) ≤ (i : Int) := by omega
          have HQ := Lib.hid hq
          have HI := Lib.hid hi
          clear hrow hkey hbel hq hi hiI
          go_wp2_with (refine wp_load_whole rfl 23 _ rfl w1.heap.size rfl 23 16 _ _ _ HKey.out rfl (key_cs _) Tryz.underlying23 rfl key_size ?_)
          refine (HNk.out _).mono ?_
          rintro e w5 ⟨rfl, hB5⟩
          have HRow5 := Lib.hid (HRow.out.of_block (hB5.block _ HRow.out.lt))
          have HKey5 := Lib.hid (HKey.out.of_block (hB5.block _ HKey.out.lt))
          have HB5 := Lib.hid (HB.out.trans (hB5.mono HB.out.size))
          have c1 := HRow5.out.cell (i := i) hik
          have c2 := HRow5.out.cell (i := q) (by omega)
          have z1 := HRow5.out.frozen i
          have z2 := HRow5.out.frozen q
          have hne : w1.heap.size ≠ w2.heap.size := by omega
          have hq64 : q < 9223372036854775808 := by omega
          clear hB5
          by_cases hqe : q = i
          · subst hqe
            clear c2 z2
            go_wp2_with fail
            go_region
            go_wp2
            go_roundw
            case rel =>
              have hi := HI.out
              refine ⟨j + 1, Or.inr (by omega), by congr 1; omega, ?_, (((HKey5.out.setOther hne _).setOther hne _).of_block rfl), ((HB5.out.setCell (p := ⟨w2.heap.size, q, none⟩) HB2.out.size _).setCell (p := ⟨w2.heap.size, q, none⟩) HB2.out.size _).drew⟩
              have h := rowI_swp HRow5.out q q
              show World.rowIs _ _ _ _ (fun x => .int .i64 (_root_.Hd.swp (arr (fun i => numN (derN K 70 0) i (i + 1)) k j) (k - 1 - j) (numN (derN K 70 0) (k - 1 - j) (k - 1 - j + 1)) x : Nat))
              rw [← hi, ← HQ.out]
              exact h
            case measure => simp [intOf]
          · have hqe2 : i ≠ q := fun h => hqe h.symm
            go_wp2_with fail
            go_region
            go_wp2
            go_roundw
            case rel =>
              have hi := HI.out
              refine ⟨j + 1, Or.inr (by omega), by congr 1; omega, ?_, (((HKey5.out.setOther hne _).setOther hne _).of_block rfl), ((HB5.out.setCell (p := ⟨w2.heap.size, i, none⟩) HB2.out.size _).setCell (p := ⟨w2.heap.size, q, none⟩) HB2.out.size _).drew⟩
              have h := rowI_swp HRow5.out i q
              show World.rowIs _ _ _ _ (fun x => .int .i64 (_root_.Hd.swp (arr (fun i => numN (derN K 70 0) i (i + 1)) k j) (k - 1 - j) (numN (derN K 70 0) (k - 1 - j) (k - 1 - j + 1)) x : Nat))
              rw [← hi, ← HQ.out]
              exact h
            case measure => simp [intOf]
        · have hI : (k : Int) - 1 - (j : Int) < 1 := by omega
          have HRf : Hid (W1.rowIs w2.heap.size 3 k (fun i => .int .i64 (arN K k i : Nat))) := HRow.out.congr fun x hx => by
            have : j = k - 1 := by omega
            rw [this]; rfl
          clear hrow hkey hbel
          go_wp2
          go_ret
          exact ⟨w2.heap.size, rfl, HRf.out, HB.out⟩
end Go.Proofs.YtmbokpfgnicboaaGreat
