import Derived.Test.YtmbokpfgnicboaaC7
set_option linter.unusedVariables false
set_option linter.unusedSimpArgs false
/- The walks of the specification of the cipher: words, round keys, Encrypt, Derive, Number. -/
namespace Go.Proofs.Ytmbokpfgnicboaa
open Go.RowKit Go.Hd _root_.Hd

theorem rd_row {w : World} {b off n cap : Nat} {t : TypeId} {N : Nat} {k : IntKind} {f : Nat → Nat} (h : w.rowIs b t N (fun j => .int k (f j))) (hn : off + n ≤ N) (hc : n ≤ cap) (hcap : cap ≤ 9223372036854775807) : Rd w k (.slice (some ⟨b, off, none⟩) n cap) n (fun j => f (off + j)) :=
  ⟨_, _, rfl, hc, by unfold maxLen; omega, fun _ => ⟨b, off, rfl, fun j hj => h.cell (by omega)⟩⟩

set_option maxRecDepth 100000 in
set_option maxHeartbeats 1000000 in
theorem refWords2_any (K : Nat → Nat) (w : World) (hK : Kb K) :
    Calls Try.prog 103 #[keyV K] w fun e w' => e = .returned (.tuple #[.int .u64 (wordsN K).1, .int .u64 (wordsN K).2]) ∧ Below w.heap.size w w' := by
  have rk := key_row w K 32
  have h1 := refValue_any 8 K (.slice (some ⟨w.heap.size, 0, none⟩) 8 16)
  have h2 := refValue_any 8 (fun j => K (8 + j)) (.slice (some ⟨w.heap.size, 8, none⟩) 8 8)
  have r1 := rd_row (off := 0) (n := 8) (cap := 16) rk (by omega) (by omega) (by omega)
  simp only [Nat.zero_add] at r1
  have r2 := rd_row (off := 8) (n := 8) (cap := 8) rk (by omega) (by omega) (by omega)
  have H1 := Lib.hid (fun m => h1 _ (r1.below (below_drewN (Below.refl _ _) m)) (fun j hj => hK j (by omega)) (by omega))
  have H2 := Lib.hid (fun m => h2 _ (r2.below (below_drewN (Below.refl _ _) m)) (fun j hj => hK (8 + j) (by omega)) (by omega))
  clear rk h1 h2 r1 r2 hK
  have hw : wordsN K = (beN K 8, beN (fun j => K (8 + j)) 8) := by unfold wordsN; rfl
  rw [hw]
  clear hw
  dsimp only
  generalize beN K 8 = X at *
  generalize beN (fun j => K (8 + j)) 8 = Y at *
  unfold keyV
  go_enter Try.func103, Try.ntmps103
  go_wp2
  go_quiet ((go_at_call 80; with_reducible (first | exact quiet_add (H1.out _) | exact quiet_one (H1.out _) | exact quiet_add (H2.out _) | exact quiet_one (H2.out _))))
  go_wp2
  go_ret2
  exact ⟨rfl, by (repeat' (first | (with_reducible exact Below.refl _ _) | (with_reducible assumption) | (with_reducible refine Below.alloc ?_ ?_ _) | (with_reducible refine Below.drew ?_) | (with_reducible refine below_drewN ?_ _) | (with_reducible refine Below.setCell ?_ ?_ _) | omega | (simp only [Go.Hd.size_drewN, World.size_alloc, World.size_setCell, World.size_drew]; omega) | (simp; omega)))⟩

/-- Three words of a round, as the specification spells it. -/
theorem round_ref (x y k : Nat) (hx : Wd (x, y)) (hk : k < W64) :
    bits .xor .u64 (IntKind.u64.wrap (((rol x 56 : Nat) : Int) + (y : Int))) (k : Int) = (((rnd (x, y) k).1 : Nat) : Int) ∧ bits .xor .u64 (IntKind.u64.wrap ((y : Int) + ((rol x 56 : Nat) : Int))) (k : Int) = (((rnd (x, y) k).1 : Nat) : Int) ∧ bits .xor .u64 ((rol y 3 : Nat) : Int) (((rnd (x, y) k).1 : Nat) : Int) = (((rnd (x, y) k).2 : Nat) : Int) := by
  have e1 : bits .xor .u64 (IntKind.u64.wrap (((rol x 56 : Nat) : Int) + (y : Int))) (k : Int) = (((rnd (x, y) k).1 : Nat) : Int) := by
    rw [add_fact, xor_fact _ _ (Nat.mod_lt _ (by decide)) hk]; rfl
  refine ⟨e1, by rw [Int.add_comm]; exact e1, ?_⟩
  rw [xor_fact _ _ (rol_lt hx.2) (rnd_wd hx hk).1]; rfl

theorem infoU64 : (Try.prog.info? 96).map (fun i => (i.zero, i.size, i.bytes)) = some (some (.int .u64 0), 1, 8) := by kernel_rfl

set_option maxRecDepth 100000 in
set_option maxHeartbeats 1000000 in
theorem refRoundKeys_any (K : Nat → Nat) (w : World) (hK : Kb K) :
    Calls Try.prog 104 #[keyV K] w fun e w' => ∃ v, e = .returned v ∧ Rd w' .u64 v 32 (fun i => (sched K i).2) ∧ Below w.heap.size w w' := by
  have rk := key_row w K 32
  (have := (rk).cell (i := 0) (by omega); have := (rk).cell (i := 1) (by omega); have := (rk).cell (i := 2) (by omega); have := (rk).cell (i := 3) (by omega); have := (rk).cell (i := 4) (by omega); have := (rk).cell (i := 5) (by omega); have := (rk).cell (i := 6) (by omega); have := (rk).cell (i := 7) (by omega); have := (rk).cell (i := 8) (by omega); have := (rk).cell (i := 9) (by omega); have := (rk).cell (i := 10) (by omega); have := (rk).cell (i := 11) (by omega); have := (rk).cell (i := 12) (by omega); have := (rk).cell (i := 13) (by omega); have := (rk).cell (i := 14) (by omega); have := (rk).cell (i := 15) (by omega))
  have HK := Lib.hid hK
  clear hK
  go_enter Try.func104, Try.ntmps104
  go_wp2_with fail
  refine (refWords2_any K _ HK.out).mono ?_
  rintro e w1 ⟨rfl, hb1⟩
  have HB1 := Lib.hid (((Below.refl w.heap.size w).alloc (Nat.le_refl _) _).trans (hb1.mono (by simp)))
  clear hb1
  go_wp2
  go_loopw [3, 4, 5, 6] (fun l a v i wr => ∃ k : Nat, k ≤ 31 ∧ i = .int .i64 k ∧ l = .int .u64 ((sched K k).1 : Nat) ∧ a = .int .u64 ((sched K k).2 : Nat) ∧ wr.ownsRow w.heap.size 96 1 v (k + 1) ((List.range (k + 1)).map fun j => .int .u64 ((sched K j).2 : Nat)) ∧ Below w.heap.size w wr) (fun _ _ _ i _ => 31 - (intOf i).toNat)
  case atStart =>
    have hl := World.ownsRow_lit (base := w.heap.size) (e := 96) (size := 1) w1 #[.int .u64 ((wordsN K).2 : Int)] 1 HB1.out.size (by unfold maxLen; omega) rfl
    have HL := Lib.hid hl
    exact ⟨0, by omega, rfl, rfl, rfl, HL.out, HB1.out.alloc HB1.out.size _⟩
  case round =>
    obtain ⟨k, hk, rfl, rfl, rfl, hown, hbel⟩ := hrel
    by_cases hlt : k < 31
    · have HS := Lib.hid (sched_wd HK.out k (by omega))
      have hs : sched K (k + 1) = rnd (sched K k) k := rfl
      have HE := Lib.hid hs
      generalize hp : sched K k = p at *
      obtain ⟨x, y⟩ := p
      have HRR := Lib.hid (round_ref x y k HS.out (by unfold W64; omega))
      have hwk : IntKind.u64.wrap (k : Int) = (k : Int) := by rw [IntKind.wrap_u64]; omega
      obtain ⟨A, c, rfl⟩ := own_slice hown
      have HO := Lib.hid hown
      have HB := Lib.hid hbel
      have HP := Lib.hid hp
      clear hown hbel hs hp
      dsimp only
      go_wp2_with fail
      refine (rotr8_any x _ HS.out.1).mono ?_
      rintro e w2 ⟨rfl, hd2⟩
      have HD2 := Lib.hid hd2
      clear hd2
      go_wp2_with fail
      refine (refRotl_any y _ HS.out.2).mono ?_
      rintro e w3 ⟨rfl, hd3⟩
      have hD3 := HD2.out.trans hd3
      have HB3 := Lib.hid (belowB_then HB.out HB.out.size hD3.below)
      have HO3 := Lib.hid (own_below HO.out hD3.below)
      have hx1 := HRR.out.2.1
      have hx2 := HRR.out.2.2
      rw [hx1]
      have HE2 := HE.out
      obtain ⟨q, hq⟩ : ∃ q, q = rnd (x, y) k := ⟨_, rfl⟩
      rw [← hq] at HE2 hx2 ⊢
      have HE3 := Lib.hid HE2
      clear hd3 hD3 hx1 HRR HE HE2 hq
      have HL : Hid ((w3.alloc (.cells #[.int .u64 (q.2 : Int)] 96)).ownsRow w3.heap.size 96 1 (.slice (some ⟨w3.heap.size, 0, none⟩) 1 1) 1 [.int .u64 (q.2 : Int)]) := World.ownsRow_lit w3 #[.int .u64 (q.2 : Int)] 1 (Nat.le_refl _) (by unfold maxLen; omega) rfl
      have HO4 := Lib.hid (own_below HO3.out ((Below.refl w3.heap.size w3).alloc (Nat.le_refl _) (.cells #[.int .u64 (q.2 : Int)] 96)))
      go_wp2_with (at_builtin; refine wp_app w.heap.size rfl (.tmp 29) (.tmp 31) 136 96 (.int .u64 0) 8 rfl Try.underlying136 infoU64 rfl (by decide) (.slice A (k + 1) c) ((List.range (k + 1)).map fun j => .int .u64 ((sched K j).2 : Nat)) rfl _ 1 (fun _ => .int .u64 (q.2 : Int)) rfl (rdV_one _ _ _) (fun _ _ => rfl) (by rw [List.length_map, List.length_range]; exact HO4.out) (by have := HB3.out.size; simp; omega) (by simp; omega) ?_; intro v5 w5 hown5 hg5; have HO5 := Lib.hid hown5; have HG5 := Lib.hid hg5; clear hown5 hg5)
      go_roundw
      case rel =>
        refine ⟨k + 1, by omega, by go_num, by rw [HE3.out], by rw [HE3.out], ?_, ?_⟩
        · have := HO5.out
          have e : (List.range (k + 1 + 1)).map (fun j => Value.int .u64 ((sched K j).2 : Nat)) = (List.range (k + 1)).map (fun j => Value.int .u64 ((sched K j).2 : Nat)) ++ [.int .u64 (q.2 : Int)] := by
            rw [List.range_succ, List.map_append, ← HE3.out]; rfl
          rw [e]
          simpa using this
        · exact below_own (HB3.out.alloc HB3.out.size _) HO4.out HG5.out (by have := HB3.out.size; simp; omega)
      case measure => simp [intOf]; omega
    · obtain rfl : k = 31 := by omega
      go_wp2
      go_ret
      exact ⟨_, rfl, rd_of_own hown, hbel⟩
end Go.Proofs.Ytmbokpfgnicboaa
