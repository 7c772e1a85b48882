import Derived.Test.YtmbokpfgnicboaaGreatC2
import Derived.Test.YtmbokpfgnicboaaGreatApp
import Derived.Test.YtmbokpfgnicboaaGreatInf
import Derived.Deep.Onto
set_option linter.unusedVariables false
set_option linter.unusedSimpArgs false
/- The walks of the specification of the cipher: bytes, blocks. -/
namespace Go.Proofs.YtmbokpfgnicboaaGreat
open Go.RowKit Go.Hd _root_.Hd

/-- The byte j of m of a number, the highest first. -/
def byt (x m j : Nat) : Nat := x / 256 ^ (m - 1 - j) % 256
theorem byt_8 {x j : Nat} (hj : j < 8) : byt x 8 j = byteN x j := by
  unfold byt byteN
  rw [show 56 - 8 * j = 8 * (8 - 1 - j) by omega, Nat.pow_mul]
theorem byt_next (x k j : Nat) (hj : j < k) : byt x (k + 1) (j + 1) = byt x k j := by
  unfold byt
  rw [show k + 1 - 1 - (j + 1) = k - 1 - j by omega]
theorem byt_list (x k : Nat) : Value.int .u8 ((x / 256 ^ k % 256 : Nat)) :: (List.range k).map (fun j => Value.int .u8 (byt x k j : Nat)) = (List.range (k + 1)).map (fun j => Value.int .u8 (byt x (k + 1) j : Nat)) := by
  rw [List.range_succ_eq_map, List.map_cons, List.map_map]
  congr 1
  apply List.map_congr_left
  intro j hj
  rw [List.mem_range] at hj
  show _ = Value.int .u8 (byt x (k + 1) (j + 1) : Nat)
  rw [byt_next x k j hj]

set_option maxHeartbeats 1000000 in
theorem refBytes_any (x m : Nat) (w : World) (hx : x < W64) (hm : m ≤ 8) :
    Calls Tryz.prog 170 #[.int .u64 x, .int .i64 m] w fun e w' => ∃ v, e = .returned v ∧ w'.ownsRow w.heap.size 5 1 v m ((List.range m).map fun j => .int .u8 (byt x m j : Nat)) ∧ Below w.heap.size w w' := by
  have HX := Lib.hid hx
  clear hx
  go_enter Tryz.func170, Tryz.ntmps170
  go_wp2
  go_loopw [0, 5, 6] (fun n v i wr => ∃ k : Nat, k ≤ m ∧ i = .int .i64 k ∧ n = .int .u64 ((x / 256 ^ k : Nat)) ∧ wr.ownsRow w.heap.size 5 1 v k ((List.range k).map fun j => .int .u8 (byt x k j : Nat)) ∧ Below w.heap.size w wr) (fun _ _ i _ => m - (intOf i).toNat)
  case atStart => exact ⟨0, by omega, rfl, by simp, World.ownsRow_nil _ _ _ _, Below.refl _ _⟩
  case round =>
    obtain ⟨k, hk, rfl, rfl, hown, hbel⟩ := hrel
    by_cases hlt : k < m
    · obtain ⟨d, hd⟩ : ∃ d, d = x / 256 ^ k := ⟨_, rfl⟩
      have hb : d < 18446744073709551616 := by rw [hd]; exact Nat.lt_of_le_of_lt (Nat.div_le_self _ _) HX.out
      rw [← hd]
      obtain ⟨A, c, rfl⟩ := own_slice hown
      have hm8 : m ≤ 8 := hm
      have HR := Lib.hid (rd_of_own hown)
      have HB := Lib.hid hbel
      have HD := Lib.hid hd
      have HE : Hid ((wr.alloc (.cells #[.int .u8 ((d : Int) % 256)] 5)).ownsRow wr.heap.size 5 1 (.slice (some ⟨wr.heap.size, 0, none⟩) 1 1) 1 [.int .u8 ((d : Int) % 256)]) := World.ownsRow_lit wr #[.int .u8 ((d : Int) % 256)] 1 (Nat.le_refl _) (by unfold maxLen; omega) rfl
      clear hown hbel hd
      go_wp2_with (at_builtin; refine wp_app wr.heap.size rfl (.tmp 15) (.tmp 16) 30 5 (.int .u8 0) 1 rfl Tryz.underlying30 infoU8 rfl (by decide) _ [.int .u8 ((d : Int) % 256)] rfl _ k _ rfl (HR.out.below ((Below.refl wr.heap.size wr).alloc (Nat.le_refl _) _)).toV (fun _ _ => rfl) HE.out (by simp) (by simp; omega) ?_; intro v1 w1 hown1 hg1; obtain ⟨A1, c1, rfl⟩ := own_slice hown1; have HO1 := Lib.hid hown1; have HG1 := Lib.hid hg1; clear hown1 hg1)
      go_roundw
      case rel =>
        have h1 := HO1.out
        have h2 := HG1.out
        have hd := HD.out
        refine ⟨k + 1, hlt, by go_num, ?_, ?_, ?_⟩
        · rw [Nat.pow_succ, ← Nat.div_div_eq_div_mul, ← hd]; go_num
        · have h3 := h1.mono HB.out.size
          rw [← byt_list, ← hd]
          simp only [List.length_singleton, List.singleton_append] at h3
          have e : ((d % 256 : Nat) : Int) = (d : Int) % 256 := by omega
          rw [Nat.add_comm 1 k] at h3 ⊢
          rw [e]
          exact h3
        · exact below_own (HB.out.alloc HB.out.size _) (HE.out.mono HB.out.size) h2 (by simp; have := HB.out.size; omega)
      case measure => simp [intOf]; omega
    · obtain rfl : k = m := by omega
      go_wp2
      go_ret
      exact ⟨_, rfl, hown, hbel⟩

set_option maxRecDepth 100000 in
set_option maxHeartbeats 2000000 in
theorem refKey_any (f : Nat → Nat) (v : Value) (w : World) (h : Rd w .u8 v 16 f) :
    Calls Tryz.prog 171 #[v] w fun e w' => e = .returned (keyV f) ∧ Below w.heap.size w w' := by
  have HR := Lib.hid h
  obtain ⟨A, cap, rfl, _, _, h3⟩ := h
  clear h3
  go_enter Tryz.func171, Tryz.ntmps171
  go_wp2
  go_loopw [4] (fun i wr => ∃ k : Nat, k ≤ 16 ∧ i = .int .i64 k ∧ wr.rowIs (w.heap.size + 1) 23 16 (fun i => .int .u8 ((if i < k then f i else 0 : Nat))) ∧ wr.rowIs w.heap.size 23 16 (fun _ => .int .u8 0) ∧ Below w.heap.size w wr) (fun i _ => 16 - (intOf i).toNat)
  case atStart =>
    have r1 := zero_row w (fun _ => 0) (fun _ _ => rfl) 23
    have r2 := zero_row (w.alloc (.cells #[.int .u8 0, .int .u8 0, .int .u8 0, .int .u8 0, .int .u8 0, .int .u8 0, .int .u8 0, .int .u8 0, .int .u8 0, .int .u8 0, .int .u8 0, .int .u8 0, .int .u8 0, .int .u8 0, .int .u8 0, .int .u8 0] 23)) (fun i => if i < 0 then f i else 0) (fun i _ => by rw [if_neg (by omega)]) 23
    rw [World.size_alloc] at r2
    exact ⟨0, by omega, rfl, r2, r1.alloc _, by (repeat' (first | (with_reducible exact Below.refl _ _) | (with_reducible assumption) | (with_reducible refine Below.alloc ?_ ?_ _) | (with_reducible refine Below.drew ?_) | (with_reducible refine below_drewN ?_ _) | (with_reducible refine Below.setCell ?_ ?_ _) | omega | (simp only [Go.Hd.size_drewN, World.size_alloc, World.size_setCell, World.size_drew]; omega) | (simp; omega)))⟩
  case round =>
    obtain ⟨k, hk, rfl, hrow, hz, hbel⟩ := hrel
    have HRow := Lib.hid hrow
    have HZ := Lib.hid hz
    have HB := Lib.hid hbel
    by_cases hlt : k < 16
    · have hR := HR.out.below hbel
      obtain ⟨A', cap', hA', _, _, h3⟩ := hR
      obtain ⟨b, off, hb, hc⟩ := h3 (by omega)
      cases hA'
      cases hb
      have hci := hc k hlt
      have hcell := hrow.cell hlt
      have hfz := hrow.frozen k
      clear hc hrow hz hbel h3
      go_wp2
      go_roundw
      case rel =>
        refine ⟨k + 1, hlt, by go_num, (HRow.out.set k _).congr fun j hj => ?_, HZ.out.setOther (by show w.heap.size ≠ w.heap.size + 1; omega) _, HB.out.setCell (p := ⟨w.heap.size + 1, k, none⟩) (by show w.heap.size ≤ w.heap.size + 1; omega) _⟩
        by_cases e : j = k
        · rw [if_pos e, if_pos (by omega), e]
        · rw [if_neg e]
          by_cases e2 : j < k
          · rw [if_pos e2, if_pos (by omega)]
          · rw [if_neg e2, if_neg (by omega)]
      case measure => simp [intOf]; omega
    · obtain rfl : k = 16 := by omega
      have hr2 : wr.rowIs (w.heap.size + 1) 23 16 (fun i => .int .u8 (f i)) := hrow.congr fun i hi => by rw [if_pos hi]
      (have := (hr2).cell (i := 0) (by omega); have := (hr2).cell (i := 1) (by omega); have := (hr2).cell (i := 2) (by omega); have := (hr2).cell (i := 3) (by omega); have := (hr2).cell (i := 4) (by omega); have := (hr2).cell (i := 5) (by omega); have := (hr2).cell (i := 6) (by omega); have := (hr2).cell (i := 7) (by omega); have := (hr2).cell (i := 8) (by omega); have := (hr2).cell (i := 9) (by omega); have := (hr2).cell (i := 10) (by omega); have := (hr2).cell (i := 11) (by omega); have := (hr2).cell (i := 12) (by omega); have := (hr2).cell (i := 13) (by omega); have := (hr2).cell (i := 14) (by omega); have := (hr2).cell (i := 15) (by omega))
      (have := (hz).cell (i := 0) (by omega); have := (hz).cell (i := 1) (by omega); have := (hz).cell (i := 2) (by omega); have := (hz).cell (i := 3) (by omega); have := (hz).cell (i := 4) (by omega); have := (hz).cell (i := 5) (by omega); have := (hz).cell (i := 6) (by omega); have := (hz).cell (i := 7) (by omega); have := (hz).cell (i := 8) (by omega); have := (hz).cell (i := 9) (by omega); have := (hz).cell (i := 10) (by omega); have := (hz).cell (i := 11) (by omega); have := (hz).cell (i := 12) (by omega); have := (hz).cell (i := 13) (by omega); have := (hz).cell (i := 14) (by omega); have := (hz).cell (i := 15) (by omega))
      (have := (hz).frozen 0; have := (hz).frozen 1; have := (hz).frozen 2; have := (hz).frozen 3; have := (hz).frozen 4; have := (hz).frozen 5; have := (hz).frozen 6; have := (hz).frozen 7; have := (hz).frozen 8; have := (hz).frozen 9; have := (hz).frozen 10; have := (hz).frozen 11; have := (hz).frozen 12; have := (hz).frozen 13; have := (hz).frozen 14; have := (hz).frozen 15)
      clear hr2 hrow hz hbel
      go_wp2
      refine bodyPost_ret (v := keyV f) ?_ rfl ⟨rfl, ?_⟩
      · exact key_result rfl _ _ w.heap.size _ rfl (row16_set HZ.out (fun i => .int .u8 (f i)))
      · exact below16_set HB.out (Nat.le_refl _) (fun i => .int .u8 (f i))
end Go.Proofs.YtmbokpfgnicboaaGreat
