import Derived.Test.YtmbokpfgnicboaaGreatArr
import Derived.Test.YtmbokpfgnicboaaGreatPlain
import Derived.Test.YtmbokpfgnicboaaGreatProg
import Derived.BigRegion
import Derived.Deep.WholeRow
set_option linter.unusedVariables false
set_option linter.unusedSimpArgs false
/- The walks of the cipher: words of a block, the block of two words, a round. -/
namespace Go.Proofs.YtmbokpfgnicboaaGreat
open Go.RowKit Go.Hd _root_.Hd

/-- A block, as a value. -/
@[reducible] def keyV (K : Nat → Nat) : Value := .agg #[.int .u8 (K 0), .int .u8 (K 1), .int .u8 (K 2), .int .u8 (K 3), .int .u8 (K 4), .int .u8 (K 5), .int .u8 (K 6), .int .u8 (K 7), .int .u8 (K 8), .int .u8 (K 9), .int .u8 (K 10), .int .u8 (K 11), .int .u8 (K 12), .int .u8 (K 13), .int .u8 (K 14), .int .u8 (K 15)]
@[reducible] def pairV (p : Nat × Nat) : Value := .agg #[.int .u64 p.1, .int .u64 p.2]
theorem keyV_congr {K L : Nat → Nat} (h : ∀ j, j < 16 → K j = L j) : keyV K = keyV L := by
  unfold keyV
  rw [h 0 (by omega), h 1 (by omega), h 2 (by omega), h 3 (by omega), h 4 (by omega), h 5 (by omega), h 6 (by omega), h 7 (by omega), h 8 (by omega), h 9 (by omega), h 10 (by omega), h 11 (by omega), h 12 (by omega), h 13 (by omega), h 14 (by omega), h 15 (by omega)]
theorem key_row (w : World) (K : Nat → Nat) (t : TypeId) : (w.alloc (.cells #[.int .u8 (K 0), .int .u8 (K 1), .int .u8 (K 2), .int .u8 (K 3), .int .u8 (K 4), .int .u8 (K 5), .int .u8 (K 6), .int .u8 (K 7), .int .u8 (K 8), .int .u8 (K 9), .int .u8 (K 10), .int .u8 (K 11), .int .u8 (K 12), .int .u8 (K 13), .int .u8 (K 14), .int .u8 (K 15)] t)).rowIs w.heap.size t 16 (fun i => .int .u8 (K i)) :=
  World.rowIs_alloc w _ _ _ (fun i hi => by
    match i, (show i < 16 from hi) with
    | 0, _ => rfl
    | 1, _ => rfl
    | 2, _ => rfl
    | 3, _ => rfl
    | 4, _ => rfl
    | 5, _ => rfl
    | 6, _ => rfl
    | 7, _ => rfl
    | 8, _ => rfl
    | 9, _ => rfl
    | 10, _ => rfl
    | 11, _ => rfl
    | 12, _ => rfl
    | 13, _ => rfl
    | 14, _ => rfl
    | 15, _ => rfl
    | n + 16, h => exact absurd h (by omega))
theorem pair_row (w : World) (p : Nat × Nat) (t : TypeId) : (w.alloc (.cells #[.int .u64 p.1, .int .u64 p.2] t)).rowIs w.heap.size t 2 (fun i => .int .u64 ((if i = 0 then p.1 else p.2 : Nat))) :=
  World.rowIs_alloc w _ _ _ (fun i hi => by
    match i, (show i < 2 from hi) with
    | 0, _ => rfl
    | 1, _ => rfl)

theorem zero_row (w : World) (f : Nat → Nat) (hf : ∀ i, i < 16 → f i = 0) (t : TypeId) : (w.alloc (.cells #[.int .u8 0, .int .u8 0, .int .u8 0, .int .u8 0, .int .u8 0, .int .u8 0, .int .u8 0, .int .u8 0, .int .u8 0, .int .u8 0, .int .u8 0, .int .u8 0, .int .u8 0, .int .u8 0, .int .u8 0, .int .u8 0] t)).rowIs w.heap.size t 16 (fun i => .int .u8 (f i)) :=
  (key_row w (fun _ => 0) t).congr fun i hi => by rw [hf i hi]

/-- Sixteen cells written one by one. -/
theorem row16_set {wr : World} {b : Nat} {t : TypeId} {g : Nat → Value} (h : wr.rowIs b t 16 g) (F : Nat → Value) :
    ((((((((((((((((wr.setCell ⟨b, 0, none⟩ (F 0)).setCell ⟨b, 1, none⟩ (F 1)).setCell ⟨b, 2, none⟩ (F 2)).setCell ⟨b, 3, none⟩ (F 3)).setCell ⟨b, 4, none⟩ (F 4)).setCell ⟨b, 5, none⟩ (F 5)).setCell ⟨b, 6, none⟩ (F 6)).setCell ⟨b, 7, none⟩ (F 7)).setCell ⟨b, 8, none⟩ (F 8)).setCell ⟨b, 9, none⟩ (F 9)).setCell ⟨b, 10, none⟩ (F 10)).setCell ⟨b, 11, none⟩ (F 11)).setCell ⟨b, 12, none⟩ (F 12)).setCell ⟨b, 13, none⟩ (F 13)).setCell ⟨b, 14, none⟩ (F 14)).setCell ⟨b, 15, none⟩ (F 15)).rowIs b t 16 F :=
  ((((((((((((((((h.set 0 _).set 1 _).set 2 _).set 3 _).set 4 _).set 5 _).set 6 _).set 7 _).set 8 _).set 9 _).set 10 _).set 11 _).set 12 _).set 13 _).set 14 _).set 15 _).congr fun i hi => by
    match i, hi with
    | 0, _ => rfl
    | 1, _ => rfl
    | 2, _ => rfl
    | 3, _ => rfl
    | 4, _ => rfl
    | 5, _ => rfl
    | 6, _ => rfl
    | 7, _ => rfl
    | 8, _ => rfl
    | 9, _ => rfl
    | 10, _ => rfl
    | 11, _ => rfl
    | 12, _ => rfl
    | 13, _ => rfl
    | 14, _ => rfl
    | 15, _ => rfl
    | n + 16, h => exact absurd h (by omega)
theorem below16_set {B : Nat} {w wr : World} {b : Nat} (h : Below B w wr) (hb : B ≤ b) (F : Nat → Value) :
    Below B w ((((((((((((((((wr.setCell ⟨b, 0, none⟩ (F 0)).setCell ⟨b, 1, none⟩ (F 1)).setCell ⟨b, 2, none⟩ (F 2)).setCell ⟨b, 3, none⟩ (F 3)).setCell ⟨b, 4, none⟩ (F 4)).setCell ⟨b, 5, none⟩ (F 5)).setCell ⟨b, 6, none⟩ (F 6)).setCell ⟨b, 7, none⟩ (F 7)).setCell ⟨b, 8, none⟩ (F 8)).setCell ⟨b, 9, none⟩ (F 9)).setCell ⟨b, 10, none⟩ (F 10)).setCell ⟨b, 11, none⟩ (F 11)).setCell ⟨b, 12, none⟩ (F 12)).setCell ⟨b, 13, none⟩ (F 13)).setCell ⟨b, 14, none⟩ (F 14)).setCell ⟨b, 15, none⟩ (F 15)) :=
  (((((((((((((((h.setCell (p := ⟨b, 0, none⟩) hb _).setCell (p := ⟨b, 1, none⟩) hb _).setCell (p := ⟨b, 2, none⟩) hb _).setCell (p := ⟨b, 3, none⟩) hb _).setCell (p := ⟨b, 4, none⟩) hb _).setCell (p := ⟨b, 5, none⟩) hb _).setCell (p := ⟨b, 6, none⟩) hb _).setCell (p := ⟨b, 7, none⟩) hb _).setCell (p := ⟨b, 8, none⟩) hb _).setCell (p := ⟨b, 9, none⟩) hb _).setCell (p := ⟨b, 10, none⟩) hb _).setCell (p := ⟨b, 11, none⟩) hb _).setCell (p := ⟨b, 12, none⟩) hb _).setCell (p := ⟨b, 13, none⟩) hb _).setCell (p := ⟨b, 14, none⟩) hb _).setCell (p := ⟨b, 15, none⟩) hb _
theorem rowIs_sixteen {w : World} {b : Nat} {t : TypeId} {f : Nat → Value} (h : w.rowIs b t 16 f) : w.heap[b]? = some (.cells #[f 0, f 1, f 2, f 3, f 4, f 5, f 6, f 7, f 8, f 9, f 10, f 11, f 12, f 13, f 14, f 15] t (0, 0)) := by
  obtain ⟨c, hb, hn, hc⟩ := h
  rw [hb]
  have : c = #[f 0, f 1, f 2, f 3, f 4, f 5, f 6, f 7, f 8, f 9, f 10, f 11, f 12, f 13, f 14, f 15] := by
    apply Array.ext_getElem?
    intro i
    rcases Nat.lt_or_ge i 16 with hi | hi
    · rw [hc i hi]
      match i, hi with
      | 0, _ => rfl
      | 1, _ => rfl
      | 2, _ => rfl
      | 3, _ => rfl
      | 4, _ => rfl
      | 5, _ => rfl
      | 6, _ => rfl
      | 7, _ => rfl
      | 8, _ => rfl
      | 9, _ => rfl
      | 10, _ => rfl
      | 11, _ => rfl
      | 12, _ => rfl
      | 13, _ => rfl
      | 14, _ => rfl
      | 15, _ => rfl
      | n + 16, h => exact absurd h (by omega)
    · rw [Array.getElem?_eq_none (by omega), Array.getElem?_eq_none (by simpa using hi)]
  rw [this]
theorem key_result {fn : Func} {p : Tmp} (h : fn.results = #[.cell p 23]) (tmps : Array Value) (w : World) (g : Nat) (K : Nat → Nat)
    (hp : tmps.getD p undef = .pointer (some ⟨g, 0, none⟩)) (hg : w.rowIs g 23 16 (fun i => .int .u8 (K i))) : (results fn tmps).run Tryz.prog w = .ok (keyV K) w :=
  results_cell_row h tmps w g 23 _ (0, 0) _ hp (rowIs_sixteen hg) Tryz.underlying23 (by kernel_rfl) (by kernel_rfl)

theorem or_step (a b : Nat) (ha : a < 72057594037927936) (hb : b < 256) : bits .or .u64 (IntKind.u64.wrap ((a : Int) * 256)) (IntKind.u64.wrap (b : Int)) = ((a * 256 + b : Nat) : Int) := by
  have e : IntKind.u64.wrap ((a : Int) * 256) = ((a * 256 : Nat) : Int) := by rw [IntKind.wrap_u64]; omega
  have e2 : IntKind.u64.wrap (b : Int) = (b : Int) := by rw [IntKind.wrap_u64]; omega
  rw [e, e2, u64_or_nat _ _ (by omega) (by omega), or_byte hb]
theorem beN_lt7 {f : Nat → Nat} {k : Nat} (hk : k < 8) (h : ∀ j, j < k → f j < 256) : beN f k < 72057594037927936 :=
  Nat.lt_of_lt_of_le (beN_lt k h) (Nat.le_trans (Nat.pow_le_pow_right (by decide) (show k ≤ 7 by omega)) (by decide))

set_option maxRecDepth 100000 in
set_option maxHeartbeats 2000000 in
theorem wordsOf_any (K : Nat → Nat) (w : World) (hK : Kb K) :
    Calls Tryz.prog 155 #[keyV K] w fun e w' => e = .returned (pairV (wordsN K)) ∧ Below w.heap.size w w' := by
  unfold keyV
  have HK := Lib.hid hK
  clear hK
  go_enter Tryz.func155, Tryz.ntmps155
  go_wp2
  go_loopw [5] (fun i wr => ∃ k : Nat, k ≤ 8 ∧ i = .int .i64 k ∧ wr.rowIs w.heap.size 23 16 (fun i => .int .u8 (K i)) ∧
      wr.rowIs (w.heap.size + 2) 193 2 (fun i => .int .u64 ((if i = 0 then beN K k else beN (fun j => K (8 + j)) k : Nat))) ∧ wr.rowIs (w.heap.size + 1) 193 2 (fun i => .int .u64 0) ∧ Below w.heap.size w wr) (fun i _ => 8 - (intOf i).toNat)
  case atStart =>
    have r1 := key_row w K 23
    have r2 := World.rowIs_alloc (w.alloc (.cells #[.int .u8 (K 0), .int .u8 (K 1), .int .u8 (K 2), .int .u8 (K 3), .int .u8 (K 4), .int .u8 (K 5), .int .u8 (K 6), .int .u8 (K 7), .int .u8 (K 8), .int .u8 (K 9), .int .u8 (K 10), .int .u8 (K 11), .int .u8 (K 12), .int .u8 (K 13), .int .u8 (K 14), .int .u8 (K 15)] 23)) #[.int .u64 0, .int .u64 0] 193 (fun i => .int .u64 0) (fun i hi => by
      match i, (show i < 2 from hi) with
      | 0, _ => rfl
      | 1, _ => rfl)
    have r3 := fun W : World => World.rowIs_alloc W #[.int .u64 0, .int .u64 0] 193 (fun i => .int .u64 ((if i = 0 then beN K 0 else beN (fun j => K (8 + j)) 0 : Nat))) (fun i hi => by
      match i, (show i < 2 from hi) with
      | 0, _ => rfl
      | 1, _ => rfl)
    rw [World.size_alloc] at r2
    refine ⟨0, by omega, rfl, (r1.alloc _).alloc _, ?_, r2.alloc _, (((Below.refl _ _).alloc (Nat.le_refl _) _).alloc (by simp) _).alloc (by simp; omega) _⟩
    have h3 := r3 ((w.alloc (.cells #[.int .u8 (K 0), .int .u8 (K 1), .int .u8 (K 2), .int .u8 (K 3), .int .u8 (K 4), .int .u8 (K 5), .int .u8 (K 6), .int .u8 (K 7), .int .u8 (K 8), .int .u8 (K 9), .int .u8 (K 10), .int .u8 (K 11), .int .u8 (K 12), .int .u8 (K 13), .int .u8 (K 14), .int .u8 (K 15)] 23)).alloc (.cells #[.int .u64 0, .int .u64 0] 193))
    rw [World.size_alloc, World.size_alloc] at h3
    exact h3
  case round =>
    obtain ⟨k, hk, rfl, hkey, hp, hr, hbel⟩ := hrel
    by_cases hlt : k < 8
    · have c1 := hkey.cell (i := k) (by omega)
      have c2 := hkey.cell (i := 8 + k) (by omega)
      have c3 := hp.cell (i := 0) (by omega)
      have c4 := hp.cell (i := 1) (by omega)
      have z3 := hp.frozen 0
      have z4 := hp.frozen 1
      have HP := Lib.hid hp
      have HR := Lib.hid hr
      have HKey := Lib.hid hkey
      have HB := Lib.hid hbel
      clear hp hr hkey hbel
      go_wp2
      go_region
      go_wp2
      go_roundw
      case rel =>
        have o1 := or_step (beN K k) (K k) (beN_lt7 hlt (fun j hj => HK.out j (by omega))) (HK.out k (by omega))
        have o2 := or_step (beN (fun j => K (8 + j)) k) (K (8 + k)) (beN_lt7 hlt (fun j hj => HK.out (8 + j) (by omega))) (HK.out (8 + k) (by omega))
        refine ⟨k + 1, hlt, by go_num, ?_, ?_, ?_, ?_⟩
        · exact (HKey.out.setOther (by show w.heap.size ≠ w.heap.size + 1 + 1; omega) _).setOther (by show w.heap.size ≠ w.heap.size + 1 + 1; omega) _
        · refine ((HP.out.set 0 _).set 1 _).congr fun i hi => ?_
          match i, hi with
          | 0, _ =>
            show Value.int _ _ = _
            rw [o1]; rfl
          | 1, _ =>
            show Value.int _ _ = _
            rw [o2]; rfl
        · exact (HR.out.setOther (by show w.heap.size + 1 ≠ w.heap.size + 1 + 1; omega) _).setOther (by show w.heap.size + 1 ≠ w.heap.size + 1 + 1; omega) _
        · exact ((HB.out.setCell (p := ⟨w.heap.size + 2, _, none⟩) (by show w.heap.size ≤ w.heap.size + 2; omega) _).setCell (p := ⟨w.heap.size + 2, _, none⟩) (by show w.heap.size ≤ w.heap.size + 2; omega) _).drew
      case measure => simp [intOf]; omega
    · obtain rfl : k = 8 := by omega
      have c3 := hp.cell (i := 0) (by omega)
      have c4 := hp.cell (i := 1) (by omega)
      have z3 := hr.frozen 0
      have z4 := hr.frozen 1
      have e3 := hr.cell (i := 0) (by omega)
      have e4 := hr.cell (i := 1) (by omega)
      have HB := Lib.hid hbel
      clear hp hr hkey hbel
      go_wp2
      refine bodyPost_ret (v := pairV (wordsN K)) ?_ rfl ⟨rfl, ?_⟩
      · simp [results, Tryz.f155, go_sem, wordsN, e3, e4]
      · exact (HB.out.setCell (p := ⟨w.heap.size + 1, _, none⟩) (by show w.heap.size ≤ w.heap.size + 1; omega) _).setCell (p := ⟨w.heap.size + 1, _, none⟩) (by show w.heap.size ≤ w.heap.size + 1; omega) _

set_option maxRecDepth 100000 in
set_option maxHeartbeats 2000000 in
theorem block_any (p : Nat × Nat) (w : World) (hp : Wd p) :
    Calls Tryz.prog 182 #[pairV p] w fun e w' => e = .returned (keyV (blockN p)) ∧ Below w.heap.size w w' := by
  obtain ⟨x, y⟩ := p
  have HW := Lib.hid hp
  clear hp
  unfold pairV
  go_enter Tryz.func182, Tryz.ntmps182
  go_wp2
  go_loopw [5] (fun i wr => ∃ k : Nat, k ≤ 8 ∧ i = .int .i64 k ∧ wr.rowIs w.heap.size 193 2 (fun i => .int .u64 ((if i = 0 then x else y : Nat))) ∧
      wr.rowIs (w.heap.size + 2) 23 16 (fun i => .int .u8 ((if i < k ∨ 8 ≤ i ∧ i < 8 + k then blockN (x, y) i else 0 : Nat))) ∧ wr.rowIs (w.heap.size + 1) 23 16 (fun i => .int .u8 0) ∧ Below w.heap.size w wr) (fun i _ => 8 - (intOf i).toNat)
  case atStart =>
    have r1 := pair_row w (x, y) 193
    have r2 := fun (W : World) (f : Nat → Nat) (hf : ∀ i, i < 16 → f i = 0) => zero_row W f hf 23
    refine ⟨0, by omega, rfl, (r1.alloc _).alloc _, ?_, ?_, (((Below.refl _ _).alloc (Nat.le_refl _) _).alloc (by simp) _).alloc (by simp; omega) _⟩
    · have := r2 ((w.alloc (.cells #[.int .u64 x, .int .u64 y] 193)).alloc (.cells #[.int .u8 0, .int .u8 0, .int .u8 0, .int .u8 0, .int .u8 0, .int .u8 0, .int .u8 0, .int .u8 0, .int .u8 0, .int .u8 0, .int .u8 0, .int .u8 0, .int .u8 0, .int .u8 0, .int .u8 0, .int .u8 0] 23)) (fun i => if i < 0 ∨ 8 ≤ i ∧ i < 8 + 0 then blockN (x, y) i else 0) (fun i hi => by rw [if_neg (by omega)])
      rw [World.size_alloc, World.size_alloc] at this
      exact this
    · have := r2 (w.alloc (.cells #[.int .u64 x, .int .u64 y] 193)) (fun _ => 0) (fun i hi => rfl)
      rw [World.size_alloc] at this
      exact this.alloc _
  case round =>
    obtain ⟨k, hk, rfl, hkey, hp, hr, hbel⟩ := hrel
    by_cases hlt : k < 8
    · have c3 := hkey.cell (i := 0) (by omega)
      have c4 := hkey.cell (i := 1) (by omega)
      have c1 := hp.cell (i := k) (by omega)
      have c2 := hp.cell (i := 8 + k) (by omega)
      have z3 := hp.frozen k
      have z4 := hp.frozen (8 + k)
      have HP := Lib.hid hp
      have HR := Lib.hid hr
      have HKey := Lib.hid hkey
      have HB := Lib.hid hbel
      clear hp hr hkey hbel
      go_wp2
      go_region
      go_wp2
      go_roundw
      case rel =>
        refine ⟨k + 1, hlt, by go_num, ?_, ?_, ?_, ?_⟩
        · exact (HKey.out.setOther (by show w.heap.size ≠ w.heap.size + 1 + 1; omega) _).setOther (by show w.heap.size ≠ w.heap.size + 1 + 1; omega) _
        · refine ((HP.out.set k _).set (8 + k) _).congr fun i hi => ?_
          rw [show (y : Int) / 2 ^ (56 - 8 * k) % 256 = ((byteN y k : Nat) : Int) by unfold byteN; norm_cast, show (x : Int) / 2 ^ (56 - 8 * k) % 256 = ((byteN x k : Nat) : Int) by unfold byteN; norm_cast]
          by_cases e1 : i = 8 + k
          · rw [if_pos e1, if_pos (by omega)]
            unfold blockN
            rw [if_neg (by omega), e1]
            congr 3; omega
          · rw [if_neg e1]
            by_cases e2 : i = k
            · rw [if_pos e2, if_pos (by omega)]
              unfold blockN
              rw [if_pos (by omega), e2]
            · rw [if_neg e2]
              by_cases e3 : i < k ∨ 8 ≤ i ∧ i < 8 + k
              · rw [if_pos e3, if_pos (by omega)]
              · rw [if_neg e3, if_neg (by omega)]
        · exact (HR.out.setOther (by show w.heap.size + 1 ≠ w.heap.size + 1 + 1; omega) _).setOther (by show w.heap.size + 1 ≠ w.heap.size + 1 + 1; omega) _
        · exact ((HB.out.setCell (p := ⟨w.heap.size + 2, _, none⟩) (by show w.heap.size ≤ w.heap.size + 2; omega) _).setCell (p := ⟨w.heap.size + 2, _, none⟩) (by show w.heap.size ≤ w.heap.size + 2; omega) _).drew
      case measure => simp [intOf]; omega
    · obtain rfl : k = 8 := by omega
      have hp2 : wr.rowIs (w.heap.size + 2) 23 16 (fun i => .int .u8 (blockN (x, y) i)) := hp.congr fun i hi => by rw [if_pos (by omega)]
      (have := (hp2).cell (i := 0) (by omega); have := (hp2).cell (i := 1) (by omega); have := (hp2).cell (i := 2) (by omega); have := (hp2).cell (i := 3) (by omega); have := (hp2).cell (i := 4) (by omega); have := (hp2).cell (i := 5) (by omega); have := (hp2).cell (i := 6) (by omega); have := (hp2).cell (i := 7) (by omega); have := (hp2).cell (i := 8) (by omega); have := (hp2).cell (i := 9) (by omega); have := (hp2).cell (i := 10) (by omega); have := (hp2).cell (i := 11) (by omega); have := (hp2).cell (i := 12) (by omega); have := (hp2).cell (i := 13) (by omega); have := (hp2).cell (i := 14) (by omega); have := (hp2).cell (i := 15) (by omega))
      (have := (hr).cell (i := 0) (by omega); have := (hr).cell (i := 1) (by omega); have := (hr).cell (i := 2) (by omega); have := (hr).cell (i := 3) (by omega); have := (hr).cell (i := 4) (by omega); have := (hr).cell (i := 5) (by omega); have := (hr).cell (i := 6) (by omega); have := (hr).cell (i := 7) (by omega); have := (hr).cell (i := 8) (by omega); have := (hr).cell (i := 9) (by omega); have := (hr).cell (i := 10) (by omega); have := (hr).cell (i := 11) (by omega); have := (hr).cell (i := 12) (by omega); have := (hr).cell (i := 13) (by omega); have := (hr).cell (i := 14) (by omega); have := (hr).cell (i := 15) (by omega))
      (have := (hr).frozen 0; have := (hr).frozen 1; have := (hr).frozen 2; have := (hr).frozen 3; have := (hr).frozen 4; have := (hr).frozen 5; have := (hr).frozen 6; have := (hr).frozen 7; have := (hr).frozen 8; have := (hr).frozen 9; have := (hr).frozen 10; have := (hr).frozen 11; have := (hr).frozen 12; have := (hr).frozen 13; have := (hr).frozen 14; have := (hr).frozen 15)
      have HR := Lib.hid hr
      have HB := Lib.hid hbel
      clear hp hp2 hr hkey hbel
      go_wp2
      refine bodyPost_ret (v := keyV (blockN (x, y))) ?_ rfl ⟨rfl, ?_⟩
      · exact key_result rfl _ _ (w.heap.size + 1) _ rfl (row16_set HR.out (fun i => .int .u8 (blockN (x, y) i)))
      · exact below16_set HB.out (by omega) (fun i => .int .u8 (blockN (x, y) i))
end Go.Proofs.YtmbokpfgnicboaaGreat

