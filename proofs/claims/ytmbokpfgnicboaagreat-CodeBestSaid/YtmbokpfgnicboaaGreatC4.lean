import Derived.Test.YtmbokpfgnicboaaGreatC3
set_option linter.unusedVariables false
set_option linter.unusedSimpArgs false
/- The walks of the cipher: Encrypt. -/
namespace Go.Proofs.YtmbokpfgnicboaaGreat
open Go.RowKit Go.Shelf Go.Hd _root_.Hd

attribute [local go_sem] Oper.semAt_some


theorem keys_any (K : Nat → Nat) (w : World) : Calls Tryz.prog 180 #[keyV K] w fun e w' => e = .returned (.func (.func 186) #[] #[.pointer (some ⟨w.heap.size, 0, none⟩)]) ∧ w.alloc (.cells #[.int .u8 (K 0), .int .u8 (K 1), .int .u8 (K 2), .int .u8 (K 3), .int .u8 (K 4), .int .u8 (K 5), .int .u8 (K 6), .int .u8 (K 7), .int .u8 (K 8), .int .u8 (K 9), .int .u8 (K 10), .int .u8 (K 11), .int .u8 (K 12), .int .u8 (K 13), .int .u8 (K 14), .int .u8 (K 15)] 23) = w' := by
  go_enter Tryz.func180, Tryz.ntmps180
  go_wp2
  go_ret
  exact ⟨rfl, rfl⟩

/-- The words after the rounds with some keys. -/
def folded (K : Nat → Nat) (p : Nat × Nat) (l : List (Fin 32)) : Nat × Nat := l.foldl (fun q x => rnd q (sched K x.val).2) p
theorem folded_snoc (K : Nat → Nat) (p : Nat × Nat) (l : List (Fin 32)) (x : Fin 32) : folded K p (l ++ [x]) = rnd (folded K p l) (sched K x.val).2 := by simp [folded]
theorem fold_range (K : Nat → Nat) (p : Nat × Nat) : ∀ n, (List.range n).foldl (fun q i => rnd q (sched K i).2) p = encN K p n
  | 0 => rfl
  | n + 1 => by rw [List.range_succ, List.foldl_append, fold_range K p n]; rfl
theorem folded_all (K : Nat → Nat) (p : Nat × Nat) (l : List (Fin 32)) (h : l.map (·.val) = List.range 32) : folded K p l = encN K p 32 := by
  rw [← fold_range, ← h, List.foldl_map]; rfl
theorem folded_wd {K : Nat → Nat} {p : Nat × Nat} (hK : Kb K) (hp : Wd p) (l : List (Fin 32)) : Wd (folded K p l) := by
  unfold folded
  induction l generalizing p with
  | nil => exact hp
  | cons x l ih => exact ih (rnd_wd hp (sched_wd hK x.val (by omega)).2)
theorem from_below {B : Nat} {W W' : World} (h : Below W.heap.size W W') : KeepsFrom B W W' := ⟨h.size, fun k o _ hk _ => (h.block k (Array.getElem?_eq_some_iff.1 hk).1).trans hk⟩
theorem cells_below {B : Nat} {W W' : World} (h : Below W.heap.size W W') : KeepsCells B W W' := fun k o _ hk _ => (h.block k (Array.getElem?_eq_some_iff.1 hk).1).trans hk
theorem cells_set {B : Nat} (W : World) (a : Addr) (v : Value) (h : a.block < B) : KeepsCells B W (W.setCell a v) := fun k o hB hk _ => (Below.heap_setCell _ _ _ _ (by omega)).trans hk

theorem heap16_set (wr : World) (b k : Nat) (F : Nat → Value) (h : k ≠ b) : ((((((((((((((((wr.setCell ⟨b, 0, none⟩ (F 0)).setCell ⟨b, 1, none⟩ (F 1)).setCell ⟨b, 2, none⟩ (F 2)).setCell ⟨b, 3, none⟩ (F 3)).setCell ⟨b, 4, none⟩ (F 4)).setCell ⟨b, 5, none⟩ (F 5)).setCell ⟨b, 6, none⟩ (F 6)).setCell ⟨b, 7, none⟩ (F 7)).setCell ⟨b, 8, none⟩ (F 8)).setCell ⟨b, 9, none⟩ (F 9)).setCell ⟨b, 10, none⟩ (F 10)).setCell ⟨b, 11, none⟩ (F 11)).setCell ⟨b, 12, none⟩ (F 12)).setCell ⟨b, 13, none⟩ (F 13)).setCell ⟨b, 14, none⟩ (F 14)).setCell ⟨b, 15, none⟩ (F 15)).heap[k]? = wr.heap[k]? := by
  iterate 16 rw [heap_setCell_other _ _ _ _ h]
set_option maxRecDepth 100000 in
set_option maxHeartbeats 2000000 in
theorem encrypt_any (K b : Nat → Nat) (w : World) (hK : Kb K) (hb : Kb b) :
    Calls Tryz.prog 153 #[keyV K, keyV b] w fun e w' => e = .returned (keyV (blockN (encN K (wordsN b) 32))) ∧ Below w.heap.size w w' := by
  refine (callsIn_wide (n := 5)).1 ?_
  refine callsIn_of_wp_marks Tryz.func153 rfl trivial ?_ rfl
  simp only [Tryz.ntmps153, List.size_toArray, List.length_cons, List.length_nil, Nat.reduceAdd, Nat.reduceSub, Array.replicate_succ, Array.replicate_zero, List.push_toArray, List.append_toArray, List.nil_append, List.cons_append]
  have HW := Lib.hid (wordsOf_any b)
  gi_wp2_with fail
  refine ⟨trivial, (calls_wide (HW.out _ hb)).mono ?_⟩
  rintro e w1 ⟨rfl, hb1⟩
  have rk := (((key_row w K 23).alloc (.cells #[.int .u8 (b 0), .int .u8 (b 1), .int .u8 (b 2), .int .u8 (b 3), .int .u8 (b 4), .int .u8 (b 5), .int .u8 (b 6), .int .u8 (b 7), .int .u8 (b 8), .int .u8 (b 9), .int .u8 (b 10), .int .u8 (b 11), .int .u8 (b 12), .int .u8 (b 13), .int .u8 (b 14), .int .u8 (b 15)] 23)).alloc (.cells #[.int .u8 0, .int .u8 0, .int .u8 0, .int .u8 0, .int .u8 0, .int .u8 0, .int .u8 0, .int .u8 0, .int .u8 0, .int .u8 0, .int .u8 0, .int .u8 0, .int .u8 0, .int .u8 0, .int .u8 0, .int .u8 0] 23))
  have rk1 := rk.of_block (hb1.block _ rk.lt)
  have hsz := hb1.size
  rw [World.size_alloc, World.size_alloc, World.size_alloc] at hsz
  have hlt0 : w.heap.size < w1.heap.size := by omega
  (have := (rk1).cell (i := 0) (by omega); have := (rk1).cell (i := 1) (by omega); have := (rk1).cell (i := 2) (by omega); have := (rk1).cell (i := 3) (by omega); have := (rk1).cell (i := 4) (by omega); have := (rk1).cell (i := 5) (by omega); have := (rk1).cell (i := 6) (by omega); have := (rk1).cell (i := 7) (by omega); have := (rk1).cell (i := 8) (by omega); have := (rk1).cell (i := 9) (by omega); have := (rk1).cell (i := 10) (by omega); have := (rk1).cell (i := 11) (by omega); have := (rk1).cell (i := 12) (by omega); have := (rk1).cell (i := 13) (by omega); have := (rk1).cell (i := 14) (by omega); have := (rk1).cell (i := 15) (by omega))
  gi_wp2_with fail
  refine ⟨trivial, (calls_wide (keys_any K _)).mono ?_⟩
  rintro e W2 ⟨rfl, hW2⟩
  have hs2 : W2.heap.size = w1.heap.size + 1 + 1 := by rw [← hW2, World.size_alloc, World.size_alloc]
  have rbox : W2.rowIs (w1.heap.size + 1) 23 16 (fun i => .int .u8 (K i)) := by
    have := key_row (w1.alloc (.cells #[.int .u64 (wordsN b).1, .int .u64 (wordsN b).2] 193)) K 23
    rw [World.size_alloc] at this
    rw [← hW2]; exact this
  have rp : W2.rowIs w1.heap.size 193 2 (fun i => .int .u64 ((if i = 0 then (folded K (wordsN b) []).1 else (folded K (wordsN b) []).2 : Nat))) := by
    rw [← hW2]; exact (pair_row w1 (wordsN b) _).alloc _
  have rres : W2.rowIs (w.heap.size + 1 + 1) 23 16 (fun _ => .int .u8 0) := by
    have h0 := zero_row ((w.alloc (.cells #[.int .u8 (K 0), .int .u8 (K 1), .int .u8 (K 2), .int .u8 (K 3), .int .u8 (K 4), .int .u8 (K 5), .int .u8 (K 6), .int .u8 (K 7), .int .u8 (K 8), .int .u8 (K 9), .int .u8 (K 10), .int .u8 (K 11), .int .u8 (K 12), .int .u8 (K 13), .int .u8 (K 14), .int .u8 (K 15)] 23)).alloc (.cells #[.int .u8 (b 0), .int .u8 (b 1), .int .u8 (b 2), .int .u8 (b 3), .int .u8 (b 4), .int .u8 (b 5), .int .u8 (b 6), .int .u8 (b 7), .int .u8 (b 8), .int .u8 (b 9), .int .u8 (b 10), .int .u8 (b 11), .int .u8 (b 12), .int .u8 (b 13), .int .u8 (b 14), .int .u8 (b 15)] 23)) (fun _ => 0) (fun _ _ => rfl) 23
    rw [World.size_alloc, World.size_alloc] at h0
    rw [← hW2]
    exact ((h0.of_block (hb1.block _ h0.lt)).alloc _).alloc _
  have hB2 : Below w.heap.size w W2 := by
    rw [← hW2]; exact ((((((Below.refl _ w).alloc (Nat.le_refl _) _).alloc (by simp) _).alloc (by simp; omega) _).trans (hb1.mono (by simp; omega))).alloc (by omega) _).alloc (by simp; omega) _
  rw [World.size_alloc]
  have HB2 := Lib.hid hB2
  have HRB := Lib.hid rbox
  have HRP := Lib.hid rp
  have HRR := Lib.hid rres
  have HKb := Lib.hid hK
  have HBb := Lib.hid hb
  clear hB2 rbox rp rres hb1 rk rk1 hW2
  gi_wp2
  refine wpIn_range_low rfl (by omega) (gf := 186) (lb := #[.pointer (some ⟨w1.heap.size + 1, 0, none⟩)]) (N := 32) rfl trivial (enters_of Tryz.func186 (by kernel_rfl) rfl)
    (encs := fun x : Fin 32 => #[Value.int .i64 (x.val : Int), Value.int .u64 ((sched K x.val).2 : Int)]) (Kp := KeepsCells (w1.heap.size + 1)) (S := fun ys => ys.map (·.val) = List.range 32) (w0 := W2)
    (fun l J W hW hJ hY h0 => keys1_in 4 (by omega) l (w1.heap.size + 1) K HKb.out W (HRB.out.of_block (hW.block _ (by omega))) J hJ hY h0)
    KeepsCells.trans (fun W l o o' h ho => KeepsCells.putObj W l o o' h ho) (Below.refl _ _) (fun _ => rfl)
    (fun pre W => (W.rowIs w1.heap.size 193 2 (fun i => .int .u64 ((if i = 0 then (folded K (wordsN b) pre).1 else (folded K (wordsN b) pre).2 : Nat))) ∧ W.rowIs (w.heap.size + 1 + 1) 23 16 (fun _ => .int .u8 0)) ∧ Below w.heap.size w W)
    (fun s A C hs hbl => ⟨⟨hs.1.1.of_block (hbl.block _ (by omega)), hs.1.2.of_block (hbl.block _ (by omega))⟩, hs.2.trans (hbl.mono (by omega))⟩)
    ⟨⟨HRP.out, HRR.out⟩, HB2.out⟩
    (fun x => { tmps := #[keyV K, keyV b, .pointer (some ⟨w.heap.size, 0, none⟩), .pointer (some ⟨w.heap.size + 1, 0, none⟩), .pointer (some ⟨w.heap.size + 1 + 1, 0, none⟩), .pointer (some ⟨w1.heap.size, 0, none⟩), undef, .int .u64 ((sched K x.val).2 : Int), keyV b, pairV (wordsN b), keyV K,
      .func (.func 186) #[] #[.pointer (some ⟨w1.heap.size + 1, 0, none⟩)], .int .i64 (x.val : Int), .int .u64 ((sched K x.val).2 : Int), undef, undef, undef, undef, undef], defers := [] }) ?assign ?body ?done
  case assign =>
    intro l x W K hK
    gi_wp2
    exact hK
  case body =>
    rintro l pre x W ⟨⟨hp, hr⟩, hB⟩ _
    have c0 := hp.cell (i := 0) (by omega)
    have c1 := hp.cell (i := 1) (by omega)
    have HP := Lib.hid hp
    have HR := Lib.hid hr
    have HB := Lib.hid hB
    have HRd := Lib.hid (round_any (folded K (wordsN b) pre) (sched K x.val).2 W (folded_wd HKb.out (wordsN_wd HBb.out) pre) (sched_wd HKb.out x.val (by omega)).2)
    clear hp hr hB
    gi_wp2_with fail
    refine ⟨trivial, (calls_round HRd.out).mono ?_⟩
    rintro e W4 ⟨rfl, hb4⟩
    have hp4 := HP.out.of_block (hb4.block _ HP.out.lt)
    have hr4 := HR.out.of_block (hb4.block _ HR.out.lt)
    have c0 := hp4.cell (i := 0) (by omega)
    have c1 := hp4.cell (i := 1) (by omega)
    have z0 := hp4.frozen 0
    have z1 := hp4.frozen 1
    have HP4 := Lib.hid hp4
    have HR4 := Lib.hid hr4
    have HB4 := Lib.hid hb4
    have hsW := HP.out.lt
    clear hp4 hr4 hb4
    gi_wp2
    have hs : folded K (wordsN b) (pre ++ [x]) = rnd (folded K (wordsN b) pre) (sched K x.val).2 := folded_snoc _ _ _ _
    refine ⟨((from_below HB4.out).trans ((KeepsOthers.setCell _ _ _).from _)).trans ((KeepsOthers.setCell _ _ _).from _), ((cells_below HB4.out).trans (cells_set _ _ _ (by show w1.heap.size < _; omega))).trans (cells_set _ _ _ (by show w1.heap.size < _; omega)), ⟨?_, ?_⟩, ?_⟩
    · refine ((HP4.out.set 0 _).set 1 _).congr fun i hi => ?_
      rw [hs]
      match i, hi with
      | 0, _ => rw [if_neg (by omega), if_pos rfl, if_pos rfl]
      | 1, _ => rw [if_pos rfl, if_neg (by omega)]
    · exact (HR4.out.setOther (by show w.heap.size + 1 + 1 ≠ w1.heap.size; omega) _).setOther (by show w.heap.size + 1 + 1 ≠ w1.heap.size; omega) _
    · exact ((HB.out.trans (HB4.out.mono (by have := HB.out.size; omega))).setCell (p := ⟨w1.heap.size, 0, none⟩) (by show w.heap.size ≤ w1.heap.size; omega) _).setCell (p := ⟨w1.heap.size, 1, none⟩) (by show w.heap.size ≤ w1.heap.size; omega) _
  case done =>
    rintro ys W hys ⟨⟨hp, hr⟩, hB⟩ hD
    rw [folded_all K (wordsN b) ys hys] at hp
    have c0 := hp.cell (i := 0) (by omega)
    have c1 := hp.cell (i := 1) (by omega)
    have HR := Lib.hid hr
    have HB := Lib.hid hB
    have HBl := Lib.hid (block_any (encN K (wordsN b) 32) W (encN_wd HKb.out (wordsN_wd HBb.out) 32 (Nat.le_refl _)))
    have hsW := hp.lt
    have hDl : W2.heap.size < W.heap.size := (Array.getElem?_eq_some_iff.1 hD).1
    have HD := Lib.hid hD
    clear hp hr hB hD
    gi_wp2_with fail
    refine ⟨trivial, (calls_wide HBl.out).mono ?_⟩
    rintro e W5 ⟨rfl, hb5⟩
    have hr5 := HR.out.of_block (hb5.block _ HR.out.lt)
    have hd5 := (hb5.block _ hDl).trans HD.out
    have hB5 := HB.out.trans (hb5.mono (by have := HB.out.size; omega))
    have HR5 := Lib.hid hr5
    have HD5 := Lib.hid hd5
    have HB5 := Lib.hid hB5
    (have := (hr5).cell (i := 0) (by omega); have := (hr5).cell (i := 1) (by omega); have := (hr5).cell (i := 2) (by omega); have := (hr5).cell (i := 3) (by omega); have := (hr5).cell (i := 4) (by omega); have := (hr5).cell (i := 5) (by omega); have := (hr5).cell (i := 6) (by omega); have := (hr5).cell (i := 7) (by omega); have := (hr5).cell (i := 8) (by omega); have := (hr5).cell (i := 9) (by omega); have := (hr5).cell (i := 10) (by omega); have := (hr5).cell (i := 11) (by omega); have := (hr5).cell (i := 12) (by omega); have := (hr5).cell (i := 13) (by omega); have := (hr5).cell (i := 14) (by omega); have := (hr5).cell (i := 15) (by omega))
    (have := (hr5).frozen 0; have := (hr5).frozen 1; have := (hr5).frozen 2; have := (hr5).frozen 3; have := (hr5).frozen 4; have := (hr5).frozen 5; have := (hr5).frozen 6; have := (hr5).frozen 7; have := (hr5).frozen 8; have := (hr5).frozen 9; have := (hr5).frozen 10; have := (hr5).frozen 11; have := (hr5).frozen 12; have := (hr5).frozen 13; have := (hr5).frozen 14; have := (hr5).frozen 15)
    clear hr5 hd5 hb5 hB5
    gi_wp2
    have e1 := row16_set HR5.out (fun i => .int .u8 (blockN (encN K (wordsN b) 32) i))
    have e2 := (heap16_set W5 (w.heap.size + 1 + 1) W2.heap.size (fun i => .int .u8 (blockN (encN K (wordsN b) 32) i)) (by omega)).trans HD5.out
    have e3 := below16_set HB5.out (show w.heap.size ≤ w.heap.size + 1 + 1 by omega) (fun i => .int .u8 (blockN (encN K (wordsN b) 32) i))
    rw [hs2] at e2
    refine ⟨by simp, .inl ⟨_, _, rfl, run_takeDeferred e2, ?_⟩⟩
    refine ⟨keyV (blockN (encN K (wordsN b) 32)), ?_, rfl, ?_⟩
    · exact key_result rfl _ _ (w.heap.size + 1 + 1) _ rfl (e1.of_block (World.putObj_heap_other (by omega)))
    · exact e3.trans (below_putObj _ _ _ _ (by omega))
end Go.Proofs.YtmbokpfgnicboaaGreat
