import Derived.Test.YtmbokpfgnicboaaGreatC2
import Derived.Test.YtmbokpfgnicboaaGreatRange
set_option linter.unusedVariables false
set_option linter.unusedSimpArgs false
/- The walks of the cipher: the round keys, one by one; Encrypt. -/
namespace Go.Proofs.YtmbokpfgnicboaaGreat
open Go.RowKit Go.Shelf Go.Hd _root_.Hd

attribute [local go_sem] Oper.semAt_some

theorem calls_wide {n : Nat} {P : Program} {f : FuncId} {args : Array Value} {w : World} {R : Ending → World → Prop} (h : Calls P f args w R) : CallsIn Fence.wide n P f args w R := callsIn_wide.2 h
theorem calls_round {n l : Nat} {P : Program} {f : FuncId} {args : Array Value} {w : World} {R : Ending → World → Prop} (h : Calls P f args w R) : CallsIn (Fence.wide.inRound l) n P f args w R := CallsIn.inRound l (callsIn_wide.2 h)
theorem rowIs_keeps {B b : Nat} {W W' : World} {t : TypeId} {n : Nat} {f : Nat → Value} (h : W.rowIs b t n f) (hk : KeepsCells B W W') (hB : B ≤ b) : W'.rowIs b t n f := by
  obtain ⟨c, hb, hn, hc⟩ := h
  exact ⟨c, hk b _ hB hb rfl, hn, hc⟩

/-- What has come when k rounds are over. -/
def first (k : Nat) : List Nat := List.range k

set_option maxRecDepth 100000 in
set_option maxHeartbeats 2000000 in
theorem keys1_in (n : Nat) (hn : 1 ≤ n) (l Bs : Nat) (K : Nat → Nat) (hK : Kb K) (W : World) (hbox : W.rowIs Bs 23 16 (fun i => .int .u8 (K i))) (J : List (Fin 32) → World → Prop) (hJ : Low W.heap.size J)
    (hY : ∀ pre x W1, J pre W1 → pre.length < 32 → YieldAt Fence.wide (n - 1) Tryz.prog l #[.int .i64 (x.val : Int), .int .u64 ((sched K x.val).2 : Int)] W1 fun e W' => e = .returned (.bool true) ∧ J (pre ++ [x]) W' ∧ KeepsCells Bs W1 W')
    (h0 : J [] W) :
    CallsIn Fence.wide n Tryz.prog 186 #[.func (.yield l) #[] #[], .pointer (some ⟨Bs, 0, none⟩)] W fun e W' => (∃ v, e = .returned v) ∧ ∃ ys, ys.map (·.val) = List.range 32 ∧ J ys W' := by
  have hlt := hbox.lt
  have HK := Lib.hid hK
  have HJ := Lib.hid hJ
  have HW := Lib.hid (wordsOf_any K)
  (have := (hbox).cell (i := 0) (by omega); have := (hbox).cell (i := 1) (by omega); have := (hbox).cell (i := 2) (by omega); have := (hbox).cell (i := 3) (by omega); have := (hbox).cell (i := 4) (by omega); have := (hbox).cell (i := 5) (by omega); have := (hbox).cell (i := 6) (by omega); have := (hbox).cell (i := 7) (by omega); have := (hbox).cell (i := 8) (by omega); have := (hbox).cell (i := 9) (by omega); have := (hbox).cell (i := 10) (by omega); have := (hbox).cell (i := 11) (by omega); have := (hbox).cell (i := 12) (by omega); have := (hbox).cell (i := 13) (by omega); have := (hbox).cell (i := 14) (by omega); have := (hbox).cell (i := 15) (by omega))
  clear hK hbox hJ
  refine callsIn_of_wp Tryz.func186 rfl trivial ?_ rfl
  simp only [Tryz.ntmps186, List.size_toArray, List.length_cons, List.length_nil, Nat.reduceAdd, Nat.reduceSub, Array.replicate_succ, Array.replicate_zero, List.push_toArray, List.append_toArray, List.nil_append, List.cons_append]
  gi_wp2_with fail
  refine ⟨trivial, (calls_wide (HW.out _ HK.out)).mono ?_⟩
  rintro e w1 ⟨rfl, hb⟩
  gi_wp2
  have hP : W.heap.size ≤ w1.heap.size := hb.size
  gi_loopw [7] (fun i wr => ∃ (k : Nat) (pre : List (Fin 32)), k ≤ 32 ∧ i = .int .i64 k ∧ Hid (pre.map (·.val) = List.range k) ∧ J pre wr ∧ wr.rowIs w1.heap.size 193 2 (fun i => .int .u64 ((if i = 0 then (sched K k).1 else (sched K k).2 : Nat))))
    (fun i _ => 32 - (intOf i).toNat)
  case atStart =>
    exact ⟨0, [], by omega, rfl, rfl, HJ.out _ _ _ h0 (by (repeat' (first | (with_reducible exact Below.refl _ _) | (with_reducible assumption) | (with_reducible refine Below.alloc ?_ ?_ _) | (with_reducible refine Below.drew ?_) | (with_reducible refine below_drewN ?_ _) | (with_reducible refine Below.setCell ?_ ?_ _) | omega | (simp only [Go.Hd.size_drewN, World.size_alloc, World.size_setCell, World.size_drew]; omega) | (simp; omega)))), pair_row w1 (wordsN K) _⟩
  case round =>
    obtain ⟨k, pre, hk, rfl, hpre, hJs, hrow⟩ := hrel
    have c0 := hrow.cell (i := 0) (by omega)
    have c1 := hrow.cell (i := 1) (by omega)
    have HRow := Lib.hid hrow
    clear hrow
    by_cases hlt2 : k < 32
    · have hpl : pre.length = k := by
        have := congrArg List.length hpre.out
        rw [List.length_range, List.length_map] at this
        exact this
      obtain ⟨fn, tmps, assign, body, hy, hR⟩ := hY _ ⟨k, hlt2⟩ wr hJs (by omega)
      dsimp only at hy
      have HE : Hid ((pre ++ [(⟨k, hlt2⟩ : Fin 32)]).map (·.val) = List.range (k + 1)) := by
        show _ = _
        rw [List.range_succ, List.map_append, hpre.out]; rfl
      have hwk : IntKind.u64.wrap (k : Int) = (k : Int) := by rw [IntKind.wrap_u64]; omega
      have HS := Lib.hid (sched_wd HK.out k (by omega))
      clear hb hpl
      gi_wp2
      refine hR.mono ?_
      rintro e W3 ⟨rfl, hJ3, hk3⟩
      have hrow3 := rowIs_keeps HRow.out hk3 (show Bs ≤ w1.heap.size by omega)
      have c0 := hrow3.cell (i := 0) (by omega)
      have c1 := hrow3.cell (i := 1) (by omega)
      have HRow3 := Lib.hid hrow3
      have HJ3 := Lib.hid hJ3
      clear hrow3 hk3 hJ3
      have HRd := Lib.hid (round_any (sched K k) k W3 HS.out (by unfold W64; omega))
      gi_wp2_with fail
      refine ⟨trivial, (calls_wide HRd.out).mono ?_⟩
      rintro e W4 ⟨rfl, hb4⟩
      have hrow4 := HRow3.out.of_block (hb4.block _ HRow3.out.lt)
      have c0 := hrow4.cell (i := 0) (by omega)
      have c1 := hrow4.cell (i := 1) (by omega)
      have z0 := hrow4.frozen 0
      have z1 := hrow4.frozen 1
      have HRow4 := Lib.hid hrow4
      have HB4 := Lib.hid hb4
      have s3 := HRow3.out.lt
      clear hrow4 hb4
      gi_wp2
      go_roundw
      case rel =>
        refine ⟨k + 1, _, hlt2, by go_num, HE, HJ.out _ _ _ HJ3.out (((HB4.out.mono (by omega)).setCell (p := ⟨w1.heap.size, 0, none⟩) hP _).setCell (p := ⟨w1.heap.size, 1, none⟩) hP _), ?_⟩
        · refine ((HRow4.out.set 0 _).set 1 _).congr fun i hi => ?_
          have hs : sched K (k + 1) = rnd (sched K k) k := rfl
          rw [hs]
          match i, hi with
          | 0, _ => rw [if_neg (by omega), if_pos rfl, if_pos rfl]
          | 1, _ => rw [if_pos rfl, if_neg (by omega)]
      case measure => simp [intOf]; omega
    · obtain rfl : k = 32 := by omega
      gi_wp2
      go_end0
      exact ⟨⟨_, rfl⟩, _, hpre.out, hJs⟩
end Go.Proofs.YtmbokpfgnicboaaGreat
