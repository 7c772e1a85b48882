import Derived.Test.YtmbokpfgnicboaaGreatP3
import Derived.Test.YtmbokpfgnicboaaGreatRoundAny
import Derived.Test.YtmbokpfgnicboaaGreatC4
set_option linter.unusedVariables false
set_option linter.unusedSimpArgs false
/- The walks of package number: long division by one digit; by any number. -/
namespace Go.Proofs.YtmbokpfgnicboaaGreat
open Go.RowKit Go.Shelf Go.Hd _root_.Hd

attribute [local go_sem] Oper.semAt_some

theorem Nt.keeps {w w1 : World} {v : Value} {m : Nat} (h : Nt w v m) (hk : KeepsAt (fun _ => True) w w1) : Nt w1 v m := by
  obtain ⟨n, f, ⟨A, cap, hv, h1, h2, h3⟩, h4⟩ := h
  exact ⟨n, f, ⟨A, cap, hv, h1, h2, fun hn => by
    obtain ⟨b, off, hA, hc⟩ := h3 hn
    exact ⟨b, off, hA, fun j hj => hk.cell (hc j hj) trivial⟩⟩, h4⟩
theorem cell_set {W : World} {a c : Addr} {v u : Value} (h : W.cell? a = some v) (hne : a.block ≠ c.block) : (W.setCell c u).cell? a = some v := (World.cell?_of_block (Below.heap_setCell _ _ _ _ hne)).trans h
/-- A variable in a block of its own. -/
theorem box_row (w : World) (v : Value) (t : TypeId) : (w.alloc (.cells #[v] t)).rowIs w.heap.size t 1 (fun _ => v) :=
  World.rowIs_alloc w _ _ _ (fun i hi => by
    obtain rfl : i = 0 := by simpa using hi
    rfl)

set_option maxRecDepth 100000 in
set_option maxHeartbeats 2000000 in
theorem parted_one (a b n : Nat) (f g : Nat → Nat) (v u : Value) (w : World) (hv : Rd w .u32 v n f) (hu : Rd w .u32 u 1 g) (cf : Canon f n) (cg : Canon g 1) (ea : val f n = a) (eb : val g 1 = b) (hba : b ≤ a) (hn : n ≤ 1000) :
    Calls Tryz.prog 149 #[v, u] w (PartedPost a b w) := by
  have hb0 : 0 < g 0 := by have := cg.top (by omega); simp at this; omega
  have hbB : g 0 < B := cg.lt 0 (by omega)
  have hbg : b = g 0 := by rw [← eb]; simp [val]
  have hn0 : 0 < n := by
    rcases Nat.eq_zero_or_pos n with h | h
    · subst h; simp [val] at ea; omega
    · exact h
  have hal := ((Below.refl _ w).alloc (Nat.le_refl _) (.cells #[v] 25)).alloc (by simp) (.cells #[u] 25)
  have HO := Lib.hid (order_nt a b v u _ (Nt.below ⟨n, f, hv, cf, ea⟩ hal) (Nt.below ⟨1, g, hu, cg, eb⟩ hal))
  have ho0 : 0 ≤ ord a b := by unfold ord; rw [if_neg (by omega)]; split <;> omega
  have HV := Lib.hid hv
  have HU := Lib.hid hu
  have HA := Lib.hid hal
  have HCF := Lib.hid cf
  have HEA := Lib.hid ea
  have HBG := Lib.hid hbg
  have HFacts := Lib.hid (dv_facts hb0 hbB n cf.lt)
  have HAll := Lib.hid (dv_all hb0 hbB n cf.lt)
  obtain ⟨A, c, rfl, hnc, hcm, hv3⟩ := hv
  obtain ⟨bA, off, rfl, hv4⟩ := hv3 hn0
  have hbA : bA < w.heap.size := World.block_lt_of_cell? w _ (hv4 0 hn0)
  obtain ⟨A2, c2, rfl, _, hcm2, hu3⟩ := hu
  obtain ⟨b2, off2, rfl, hu4⟩ := hu3 (by omega)
  have HV4 := Lib.hid hv4
  have hb2w : b2 < w.heap.size := World.block_lt_of_cell? w _ (hu4 0 (by omega))
  have hgc := hu4 0 (by omega)
  rw [Nat.add_zero] at hgc
  clear hv3 hu3 hu4 hv4 hal cf cg ea eb hba hbg
  unfold B at hbB
  have hmk := run_make_row' (P := Tryz.prog) 25 158 (.int .u32 0) 4 Tryz.underlying25 infoU32 rfl .i64 .i64 n (by omega) (by omega)
  refine (callsIn_wide (n := 5)).1 ?_
  refine callsIn_of_wp_marks Tryz.func149 rfl trivial ?_ rfl
  simp only [Tryz.ntmps149, List.size_toArray, List.length_cons, List.length_nil, Nat.reduceAdd, Nat.reduceSub, Array.replicate_succ, Array.replicate_zero, List.push_toArray, List.append_toArray, List.nil_append, List.cons_append]
  gi_wp2_with fail
  refine ⟨trivial, (calls_wide HO.out).mono ?_⟩
  rintro e w1 ⟨rfl, hb1⟩
  have hc1 : w1.cell? ⟨w.heap.size, 0, none⟩ = some (.slice (some ⟨bA, off, none⟩) n c) := cell_below hb1 (cell_below ((Below.refl _ _).alloc (Nat.le_refl _) _) (cell_new w _ _).1)
  have hc2 : w1.cell? ⟨w.heap.size + 1, 0, none⟩ = some (.slice (some ⟨b2, off2, none⟩) 1 c2) := cell_below hb1 (by have := (cell_new (w.alloc (.cells #[.slice (some ⟨bA, off, none⟩) n c] 25)) (.slice (some ⟨b2, off2, none⟩) 1 c2) 25).1; rw [World.size_alloc] at this; exact this)
  have HB1 := Lib.hid (below_then HA.out hb1)
  have hsz1 : w.heap.size + 1 < w1.heap.size := by have := World.block_lt_of_cell? w1 _ hc2; exact this
  have hsz0 : w.heap.size < w1.heap.size := by omega
  have hsz2 : w.heap.size < w1.heap.size + 1 := by omega
  have hsz3 : w.heap.size < w1.heap.size + 1 + 1 := by omega
  have hsz4 : w.heap.size < w1.heap.size + 1 + 1 + 1 := by omega
  clear hb1
  gi_wp2_with fail
  refine ⟨trivial, (back_in Fence.wide 4 trivial rfl _ _ _ _).mono ?_⟩
  rintro e W2 ⟨rfl, hW2⟩
  obtain ⟨Y, hY⟩ : ∃ Y, Y = w1.heap.size := ⟨_, rfl⟩
  have rY : W2.rowIs Y 158 n (fun j => .int .u32 ((dv f (g 0) []).1 j : Nat)) := by rw [hW2, hY]; exact (((World.rowIs_made w1 _ n _).alloc _).alloc _).alloc _
  have rQ : W2.rowIs (Y + 1) 25 1 (fun _ => .slice (some ⟨Y, 0, none⟩) n n) := by
    have h := box_row (w1.alloc (.cells (madeCells #[.int .u32 0] n) 158)) (.slice (some ⟨w1.heap.size, 0, none⟩) n n) 25
    rw [World.size_alloc] at h
    rw [hW2, hY]; exact (h.alloc _).alloc _
  have rR : W2.rowIs (Y + 1 + 1) 158 1 (fun _ => .int .u32 ((dv f (g 0) []).2 : Nat)) := by
    have h := box_row ((w1.alloc (.cells (madeCells #[.int .u32 0] n) 158)).alloc (.cells #[.slice (some ⟨w1.heap.size, 0, none⟩) n n] 25)) (.int .u32 0) 158
    rw [World.size_alloc, World.size_alloc] at h
    rw [hW2, hY]; exact h.alloc _
  have rS : W2.rowIs (Y + 1 + 1 + 1) 25 1 (fun _ => .slice (some ⟨bA, off, none⟩) n c) := by
    have h := box_row (((w1.alloc (.cells (madeCells #[.int .u32 0] n) 158)).alloc (.cells #[.slice (some ⟨w1.heap.size, 0, none⟩) n n] 25)).alloc (.cells #[.int .u32 0] 158)) (.slice (some ⟨bA, off, none⟩) n c) 25
    rw [World.size_alloc, World.size_alloc, World.size_alloc] at h
    rw [hW2, hY]; exact h
  have hB2 : Below w.heap.size w W2 := by
    rw [hW2]; exact (((HB1.out.alloc HB1.out.size _).alloc (by simp; omega) _).alloc (by simp; omega) _).alloc (by simp; omega) _
  have hs2 : W2.heap.size = Y + 1 + 1 + 1 + 1 := by rw [hW2, hY]; simp
  have ca : W2.cell? ⟨w.heap.size, 0, none⟩ = some (.slice (some ⟨bA, off, none⟩) n c) := by
    rw [hW2]; exact cell_below ((((((Below.refl _ w1).alloc (Nat.le_refl _) _).alloc (by simp) _).alloc (by simp; omega) _)).alloc (by simp; omega) _) hc1
  have cb : W2.cell? ⟨w.heap.size + 1, 0, none⟩ = some (.slice (some ⟨b2, off2, none⟩) 1 c2) := by
    rw [hW2]; exact cell_below ((((((Below.refl _ w1).alloc (Nat.le_refl _) _).alloc (by simp) _).alloc (by simp; omega) _)).alloc (by simp; omega) _) hc2
  have HY2 := Lib.hid rY
  have HQ2 := Lib.hid rQ
  have HR2 := Lib.hid rR
  have HS2 := Lib.hid rS
  have HB2 := Lib.hid hB2
  have HCa := Lib.hid ca
  have HCb := Lib.hid cb
  have HW2 := Lib.hid hs2
  clear rY rQ rR rS hB2 ca cb hs2 hW2 hmk hc1 hc2 hsz2 hsz3 hsz4
  rw [World.size_alloc, World.size_alloc, World.size_alloc, ← hY]
  rw [← hY] at hsz0 hsz1
  have HYd := Lib.hid hY
  clear hY
  gi_wp2_with fail
  refine wpIn_range_low rfl (by omega) (gf := 160) (lb := #[.pointer (some ⟨Y + 1 + 1 + 1, 0, none⟩)]) (N := n) rfl trivial (enters_of Tryz.func160 (by kernel_rfl) rfl)
    (encs := fun x : Fin n => #[Value.int .i64 (x.val : Int), Value.int .u32 (f x.val : Int)]) (Kp := KeepsAt (fun k => k = Y + 1 + 1 + 1 ∨ k = bA)) (S := fun ys => ys.map Fin.val = upto (bk n) n) (w0 := W2)
    (fun l J W hW hJ hYl h0 => back_low 4 (by omega) l (Y + 1 + 1 + 1) bA off n c f (by omega) W (fun j hj => cell_below hW (cell_below HB2.out (HV4.out j hj))) (cell_below hW (HS2.out.cell (i := 0) (by omega))) J hYl h0)
    KeepsAt.trans (fun W l o o' h ho => KeepsAt.putObj W l o o' h ho) (Below.refl _ _) (fun _ => rfl)
    (fun (pre : List (Fin n)) W => W.rowIs Y 158 n (fun j => .int .u32 ((dv f (g 0) (pre.map Fin.val)).1 j : Nat)) ∧ W.rowIs (Y + 1) 25 1 (fun _ => .slice (some ⟨Y, 0, none⟩) n n) ∧ W.rowIs (Y + 1 + 1) 158 1 (fun _ => .int .u32 ((dv f (g 0) (pre.map Fin.val)).2 : Nat)) ∧
      W.cell? ⟨w.heap.size, 0, none⟩ = some (.slice (some ⟨bA, off, none⟩) n c) ∧ W.cell? ⟨w.heap.size + 1, 0, none⟩ = some (.slice (some ⟨b2, off2, none⟩) 1 c2) ∧ Below w.heap.size w W)
    (fun s X C hs hbl => ⟨hs.1.of_block (hbl.block _ (by have := HW2.out; omega)), hs.2.1.of_block (hbl.block _ (by have := HW2.out; omega)), hs.2.2.1.of_block (hbl.block _ (by have := HW2.out; omega)), (hbl.cell (p := ⟨w.heap.size, 0, none⟩) (by have := HW2.out; show w.heap.size < _; omega)).trans hs.2.2.2.1, (hbl.cell (p := ⟨w.heap.size + 1, 0, none⟩) (by have := HW2.out; show w.heap.size + 1 < _; omega)).trans hs.2.2.2.2.1, hs.2.2.2.2.2.trans (hbl.mono (by have := HW2.out; omega))⟩)
    ⟨HY2.out, HQ2.out, HR2.out, HCa.out, HCb.out, HB2.out⟩
    ?a1 ?assign ?body ?done
  case assign =>
    intro l x W K hK
    gi_wp2
    exact hK
  case body =>
    rintro l pre x W ⟨rY, rQ, rR, ca, cb, hB⟩ _
    have hxl := x.isLt
    have HRY := Lib.hid rY
    have HRQ := Lib.hid rQ
    have HRR := Lib.hid rR
    have HCa := Lib.hid ca
    have HCb := Lib.hid cb
    have HB := Lib.hid hB
    obtain ⟨s, hs⟩ : ∃ s, s = dv f (g 0) (pre.map Fin.val) := ⟨_, rfl⟩
    have HF1 := HFacts.out _ (pre.map Fin.val) rfl (fun y hy => by obtain ⟨z, _, rfl⟩ := List.mem_map.1 hy; exact z.isLt)
    rw [← hs] at HF1 rY rR
    have hsnd : s.2 < g 0 := HF1.1
    have HDv := Lib.hid (fun W => div32_any s.2 (f x.val) (g 0) W hsnd (HCF.out.lt _ hxl) hbB)
    have HS := Lib.hid hs
    have HSB := Lib.hid HF1.2
    have c1 := rQ.cell (i := 0) (by omega)
    have c2' := rR.cell (i := 0) (by omega)
    have z2 := rR.frozen 0
    have c3 := rY.cell (i := x.val) hxl
    have z3 := rY.frozen x.val
    have c4 := cell_below hB (HV4.out x.val hxl)
    have c5 := cell_below hB hgc
    have i0 : (0 : Int) ≤ (x.val : Int) := by omega
    have i1 : (x.val : Int) < (n : Int) := by omega
    have hmix : Tryz.prog.follows .mixedOrders = true := by kernel_rfl
    clear rY rQ rR hB hs HF1 hgc
    gi_wp2_with fail
    refine wpIn_round_held (S := fun w' => w'.cell? ⟨w.heap.size, 0, none⟩ = some (.slice (some ⟨bA, off, none⟩) n c) ∧ w'.cell? ⟨w.heap.size + 1, 0, none⟩ = some (.slice (some ⟨b2, off2, none⟩) 1 c2) ∧ w'.cell? ⟨Y + 1, 0, none⟩ = some (.slice (some ⟨Y, 0, none⟩) n n)  ∧
      w'.cell? ⟨bA, off + x.val, none⟩ = some (.int .u32 (f x.val : Nat)) ∧ w'.cell? ⟨b2, off2, none⟩ = some (.int .u32 (g 0 : Nat))) hmix (by kernel_rfl) ?_ ⟨ca, cb, c1, c4, c5⟩ (fun hHeld => ?_)
    · rintro ⟨_, _, h⟩
      exact h
    (refine wpAnyH_take (i := 0) (v := ?_) rfl (by kernel_rfl) (by kernel_rfl) (by kernel_rfl) (fun _ _ _ h => h) (Or.inl ⟨by rfl, ?_⟩) (by assumption) ?_; rotate_left; focus ((intro w hSw; (try dsimp only at hSw); go_simp) <;> (try with_reducible rfl)); (try simp only [Act.put, List.setIfInBounds_toArray, List.set_cons_zero, List.set_cons_succ]))
    (refine wpAnyH_take (i := 1) (v := ?_) rfl (by kernel_rfl) (by kernel_rfl) (by kernel_rfl) (fun _ _ _ h => h) (Or.inl ⟨by rfl, ?_⟩) (by assumption) ?_; rotate_left; focus ((intro w hSw; (try dsimp only at hSw); go_simp) <;> (try with_reducible rfl)); (try simp only [Act.put, List.setIfInBounds_toArray, List.set_cons_zero, List.set_cons_succ]))
    (refine wpAnyH_take (i := 3) (v := ?_) rfl (by kernel_rfl) (by kernel_rfl) (by kernel_rfl) (fun _ _ _ h => h) (Or.inl ⟨by rfl, ?_⟩) (by assumption) ?_; rotate_left; focus ((intro w hSw; (try dsimp only at hSw); go_simp) <;> (try with_reducible rfl)); (try simp only [Act.put, List.setIfInBounds_toArray, List.set_cons_zero, List.set_cons_succ]))
    (refine wpAnyH_take (i := 4) (v := ?_) rfl (by kernel_rfl) (by kernel_rfl) (by kernel_rfl) (fun _ _ _ h => h) (Or.inl ⟨by rfl, ?_⟩) (by assumption) ?_; rotate_left; focus ((intro w hSw; (try dsimp only at hSw); go_simp) <;> (try with_reducible rfl)); (try simp only [Act.put, List.setIfInBounds_toArray, List.set_cons_zero, List.set_cons_succ]))
    (refine wpAnyH_take (i := 5) (v := ?_) rfl (by kernel_rfl) (by kernel_rfl) (by kernel_rfl) (fun _ _ _ h => h) (Or.inl ⟨by rfl, ?_⟩) (by assumption) ?_; rotate_left; focus ((intro w hSw; (try dsimp only at hSw); go_simp) <;> (try with_reducible rfl)); (try simp only [Act.put, List.setIfInBounds_toArray, List.set_cons_zero, List.set_cons_succ]))
    (refine wpAnyH_take (i := 6) (v := ?_) rfl (by kernel_rfl) (by kernel_rfl) (by kernel_rfl) (fun _ _ _ h => h) (Or.inl ⟨by rfl, ?_⟩) (by assumption) ?_; rotate_left; focus ((intro w hSw; (try dsimp only at hSw); go_simp) <;> (try with_reducible rfl)); (try simp only [Act.put, List.setIfInBounds_toArray, List.set_cons_zero, List.set_cons_succ]))
    (refine wpAnyH_take (i := 7) (v := ?_) rfl (by kernel_rfl) (by kernel_rfl) (by kernel_rfl) (fun _ _ _ h => h) (Or.inl ⟨by rfl, ?_⟩) (by assumption) ?_; rotate_left; focus ((intro w hSw; (try dsimp only at hSw); go_simp) <;> (try with_reducible rfl)); (try simp only [Act.put, List.setIfInBounds_toArray, List.set_cons_zero, List.set_cons_succ]))
    (refine wpAnyH_take (i := 8) (v := ?_) rfl (by kernel_rfl) (by kernel_rfl) (by kernel_rfl) (fun _ _ _ h => h) (Or.inl ⟨by rfl, ?_⟩) (by assumption) ?_; rotate_left; focus ((intro w hSw; (try dsimp only at hSw); go_simp) <;> (try with_reducible rfl)); (try simp only [Act.put, List.setIfInBounds_toArray, List.set_cons_zero, List.set_cons_succ]))
    (refine wpAnyH_take (i := 9) (v := ?_) rfl (by kernel_rfl) (by kernel_rfl) (by kernel_rfl) (fun _ _ _ h => h) (Or.inl ⟨by rfl, ?_⟩) (by assumption) ?_; rotate_left; focus ((intro w hSw; (try dsimp only at hSw); go_simp) <;> (try with_reducible rfl)); (try simp only [Act.put, List.setIfInBounds_toArray, List.set_cons_zero, List.set_cons_succ]))
    (refine wpAnyH_ready (rs := [2]) (by kernel_rfl) (by simp) (AllReadyH.cons rfl (fun K hK => ?_) AllReadyH.nil); go_simp)
    refine hK.out _ _ hHeld (fun hHeld2 => ?_)
    clear hK K
    (try simp only [Act.put, List.setIfInBounds_toArray, List.set_cons_zero, List.set_cons_succ])
    (refine wpAnyH_ready (rs := [10]) (by kernel_rfl) (by simp) (AllReadyH.cons rfl (fun K hK => ?_) AllReadyH.nil); go_simp)
    refine (HDv.out _).mono ?_
    rintro e W4 ⟨rfl, m4, rfl⟩
    refine hK.out _ _ hHeld (fun hHeld3 => ?_)
    clear hK K hHeld hHeld2
    (try simp only [Act.put, List.setIfInBounds_toArray, List.set_cons_zero, List.set_cons_succ])
    (refine wpAnyH_take (i := 11) (v := ?_) rfl (by kernel_rfl) (by kernel_rfl) (by kernel_rfl) (fun _ _ _ h => h) (Or.inl ⟨by rfl, ?_⟩) (by assumption) ?_; rotate_left; focus ((intro w hSw; (try dsimp only at hSw); go_simp) <;> (try with_reducible rfl)); (try simp only [Act.put, List.setIfInBounds_toArray, List.set_cons_zero, List.set_cons_succ]))
    (refine wpAnyH_take (i := 12) (v := ?_) rfl (by kernel_rfl) (by kernel_rfl) (by kernel_rfl) (fun _ _ _ h => h) (Or.inl ⟨by rfl, ?_⟩) (by assumption) ?_; rotate_left; focus ((intro w hSw; (try dsimp only at hSw); go_simp) <;> (try with_reducible rfl)); (try simp only [Act.put, List.setIfInBounds_toArray, List.set_cons_zero, List.set_cons_succ]))
    (refine wpAnyH_take (i := 13) (v := ?_) rfl (by kernel_rfl) (by kernel_rfl) (by kernel_rfl) (fun _ _ _ h => h) (Or.inl ⟨by rfl, ?_⟩) (by assumption) ?_; rotate_left; focus ((intro w hSw; (try dsimp only at hSw); go_simp) <;> (try with_reducible rfl)); (try simp only [Act.put, List.setIfInBounds_toArray, List.set_cons_zero, List.set_cons_succ]))
    (refine wpAnyH_take (i := 14) (v := ?_) rfl (by kernel_rfl) (by kernel_rfl) (by kernel_rfl) (fun _ _ _ h => h) (Or.inl ⟨by rfl, ?_⟩) (by assumption) ?_; rotate_left; focus ((intro w hSw; (try dsimp only at hSw); go_simp) <;> (try with_reducible rfl)); (try simp only [Act.put, List.setIfInBounds_toArray, List.set_cons_zero, List.set_cons_succ]))
    have rY5 : (W.drew.drewN m4).rowIs Y 158 n (fun j => .int .u32 (s.1 j : Nat)) := by rw [HS.out]; exact HRY.out.of_block rfl
    have rQ5 : (W.drew.drewN m4).rowIs (Y + 1) 25 1 (fun _ => .slice (some ⟨Y, 0, none⟩) n n) := HRQ.out.of_block rfl
    have rR5 : (W.drew.drewN m4).rowIs (Y + 1 + 1) 158 1 (fun _ => .int .u32 (s.2 : Nat)) := by rw [HS.out]; exact HRR.out.of_block rfl
    have hB5 : Below w.heap.size w (W.drew.drewN m4) := below_drewN HB.out.drew m4
    have hKF : KeepsFrom W2.heap.size W (W.drew.drewN m4) := from_below (below_drewN (Below.refl _ _).drew m4)
    have hKA : KeepsAt (fun k => k = Y + 1 + 1 + 1 ∨ k = bA) W (W.drew.drewN m4) := fun k o _ hk _ => hk
    clear z3 z2 c1 c2' c3
    obtain ⟨ca5, cb5, c15, c45, c55⟩ := hHeld3
    generalize W.drew.drewN m4 = W5 at *
    have c3' := rY5.cell (i := x.val) hxl
    have z3' := rY5.frozen x.val
    have hb2 : b2 < w.heap.size := hb2w
    (refine wpAnyH_ready (rs := [15]) (by kernel_rfl) (by simp) (AllReadyH.cons rfl (fun K hK => ?_) AllReadyH.nil); go_simp)
    refine hK.out _ _ ⟨cell_set ca5 (by show w.heap.size ≠ Y; omega), cell_set cb5 (by show w.heap.size + 1 ≠ Y; omega), cell_set c15 (by show Y + 1 ≠ Y; omega), cell_set c45 (by show bA ≠ Y; omega), cell_set c55 (by show b2 ≠ Y; omega)⟩ (fun hHeld4 => ?_)
    clear hK K
    (try simp only [Act.put, List.setIfInBounds_toArray, List.set_cons_zero, List.set_cons_succ])
    have rY6 : (W5.setCell ⟨Y, x.val, none⟩ (.int .u32 (((s.2 : Int) * (B : Int) + (f x.val : Int)) / (g 0 : Int)))).rowIs Y 158 n (fun j => .int .u32 ((stp f (g 0) s x.val).1 j : Nat)) := rowIs_upd rY5 x.val ((s.2 * B + f x.val) / g 0) _ rfl
    have rQ6 := rQ5.setOther (a := ⟨Y, x.val, none⟩) (by show Y + 1 ≠ Y; omega) (.int .u32 (((s.2 : Int) * (B : Int) + (f x.val : Int)) / (g 0 : Int)))
    have rR6 := rR5.setOther (a := ⟨Y, x.val, none⟩) (by show Y + 1 + 1 ≠ Y; omega) (.int .u32 (((s.2 : Int) * (B : Int) + (f x.val : Int)) / (g 0 : Int)))
    have hB6 := hB5.setCell (p := ⟨Y, x.val, none⟩) (by show w.heap.size ≤ Y; omega) (.int .u32 (((s.2 : Int) * (B : Int) + (f x.val : Int)) / (g 0 : Int)))
    have hKF6 := hKF.trans ((KeepsOthers.setCell W5 ⟨Y, x.val, none⟩ (.int .u32 (((s.2 : Int) * (B : Int) + (f x.val : Int)) / (g 0 : Int)))).from _)
    have hKA6 := hKA.set ⟨Y, x.val, none⟩ (.int .u32 (((s.2 : Int) * (B : Int) + (f x.val : Int)) / (g 0 : Int))) (by rintro k (rfl | rfl) <;> show _ ≠ Y <;> omega)
    clear rY5 rQ5 rR5 hB5 hKF hKA c3' z3'
    obtain ⟨ca6, cb6, c16, c46, c56⟩ := hHeld4
    generalize W5.setCell ⟨Y, x.val, none⟩ (.int .u32 (((s.2 : Int) * (B : Int) + (f x.val : Int)) / (g 0 : Int))) = W6 at *
    have c2' := rR6.cell (i := 0) (by omega)
    have z2' := rR6.frozen 0
    (refine wpAnyH_ready (rs := [16]) (by kernel_rfl) (by simp) (AllReadyH.cons rfl (fun K hK => ?_) AllReadyH.nil); go_simp)
    refine hK.out _ _ ⟨cell_set ca6 (by show w.heap.size ≠ Y + 1 + 1; omega), cell_set cb6 (by show w.heap.size + 1 ≠ Y + 1 + 1; omega), cell_set c16 (by show Y + 1 ≠ Y + 1 + 1; omega), cell_set c46 (by show bA ≠ Y + 1 + 1; omega), cell_set c56 (by show b2 ≠ Y + 1 + 1; omega)⟩ (fun hHeld5 => ?_)
    clear hK K
    refine wpAnyH_done (by kernel_rfl) ?_ _
    have hs : dv f (g 0) ((pre ++ [x]).map Fin.val) = stp f (g 0) s x.val := by rw [List.map_append, HS.out]; exact dv_snoc _ _ _ _
    refine ⟨hKF6.trans ((KeepsOthers.setCell _ _ _).from _), hKA6.set _ _ (by rintro k (rfl | rfl) <;> show _ ≠ Y + 1 + 1 <;> omega), ?_, ?_, ?_, hHeld5.1, hHeld5.2.1, ?_⟩
    · rw [hs]; exact rY6.setOther (by show Y ≠ Y + 1 + 1; omega) _
    · exact rQ6.setOther (by show Y + 1 ≠ Y + 1 + 1; omega) _
    · rw [hs]
      exact (rR6.set 0 _).congr fun i hi => by
        obtain rfl : i = 0 := by omega
        rw [if_pos rfl]; rfl
    · exact hB6.setCell (p := ⟨Y + 1 + 1, 0, none⟩) (by show w.heap.size ≤ Y + 1 + 1; omega) _
  case done =>
    rintro ys W hys ⟨rY, rQ, rR, ca, cb, hB⟩ hD
    rw [hys] at rY rR
    have c1 := rQ.cell (i := 0) (by omega)
    have c2' := rR.cell (i := 0) (by omega)
    have HF1 := HFacts.out _ (upto (bk n) n) rfl (fun y hy => by
      obtain ⟨k, hk, rfl⟩ := List.mem_map.1 hy
      have := List.mem_range.1 hk
      show n - 1 - k < n
      omega)
    obtain ⟨ha1, ha2⟩ := HAll.out
    generalize dv f (g 0) (upto (bk n) n) = s at *
    have HA1 := Lib.hid ha1
    have HA2 := Lib.hid ha2
    have HSB := Lib.hid HF1.2
    have hs2B : s.2 < B := Nat.lt_trans HF1.1 hbB
    have HRY := Lib.hid rY
    have HB := Lib.hid hB
    have hDl : W2.heap.size < W.heap.size := (Array.getElem?_eq_some_iff.1 hD).1
    have HD := Lib.hid hD
    have HTq := Lib.hid (fun W' (h : Below W.heap.size W W') => trim_at n n s.1 Y 0 W' ((rd_of_row rY (by omega)).below h) (fun j _ => HF1.2 j))
    have HTr := Lib.hid (fun (W' : World) (q : Nat) (h : Rd W' .u32 (.slice (some ⟨q, 0, none⟩) 1 1) 1 (fun _ => s.2)) => trim_any 1 (fun _ => s.2) _ W' h (fun _ _ => hs2B))
    clear rY rQ rR ca cb hB ha1 ha2 HF1 hD hgc
    gi_wp2_with fail
    refine wpIn_wide.2 ?_
    go_region_held3 (fun w' => w'.cell? ⟨Y + 1, 0, none⟩ = some (.slice (some ⟨Y, 0, none⟩) n n) ∧ w'.cell? ⟨Y + 1 + 1, 0, none⟩ = some (.int .u32 (s.2 : Nat))) (first | go_keep | exact ⟨cell_below hAl.out c1, cell_below hAl.out c2'⟩)
      (first
        | (go_at_call_of 152 (Value.slice (some ⟨Y, 0, none⟩) n n); refine (HTq.out _ (by first | exact (Below.refl _ _).drew | exact (Below.refl _ _).drew.alloc (Nat.le_refl _) _)).mono ?_; rintro e w' ⟨⟨k1, rfl, hk1, hkc1, hkv1⟩, rfl⟩; have HN1 : Hid (∀ W', Rd W' .u32 (.slice (some ⟨Y, 0, none⟩) n n) n s.1 → Nt W' (.slice (some ⟨Y, 0, none⟩) k1 n) (val s.1 n)) := fun W' h => ⟨k1, s.1, rd_le h hk1 hk1 (by omega), hkc1, hkv1⟩; clear hk1 hkc1 hkv1)
        | (go_at_call 152; refine (HTr.out _ _ (rdV_one W.drew _ _).toRd).mono ?_; intro e w' hp; obtain ⟨v2, rfl, hN2, rfl⟩ := hp.nt (fun j _ => hs2B); have HN2 := Lib.hid hN2; clear hN2 hp))
    all_goals
      gi_wp2
      have hBa : Below w.heap.size w (W.alloc (.cells #[.int .u32 (s.2 : Nat)] 158)).drew := (HB.out.alloc HB.out.size _).drew
      have hd5 : (W.alloc (.cells #[.int .u32 (s.2 : Nat)] 158)).drew.heap[W2.heap.size]? = some (.deferred (some [])) := (Below.heap_alloc _ _ _ (by simpa using hDl)).trans HD.out
      refine ⟨by simp, .inl ⟨_, _, rfl, run_takeDeferred hd5, ?_⟩⟩
      have hm1 : val s.1 n = a / b := by rw [HA1.out, HEA.out, HBG.out]
      have hm2 : val (fun _ => s.2) 1 = a % b := by
        rw [← HEA.out, HBG.out, ← HA2.out]; simp [val]
      have hn1 := HN1.out (W.alloc (.cells #[.int .u32 (s.2 : Nat)] 158)).drew ((rd_of_row HRY.out (by omega)).below ((Below.refl _ W).alloc (Nat.le_refl _) _).drew)
      have hn2 := HN2.out
      rw [hm1] at hn1
      rw [hm2] at hn2
      have hkp : KeepsAt (fun _ => True) (W.alloc (.cells #[.int .u32 (s.2 : Nat)] 158)).drew ((W.alloc (.cells #[.int .u32 (s.2 : Nat)] 158)).drew.putObj W2.heap.size (.deferred none)) := KeepsAt.putObj _ _ _ _ hd5 rfl
      refine ⟨.tuple #[.slice (some ⟨Y, 0, none⟩) k1 n, v2], ?_, _, v2, rfl, Nt.keeps hn1 hkp, Nt.keeps hn2 hkp, hBa.trans (below_putObj _ _ _ _ HB2.out.size), ⟨_, _, _, rfl, .inr ⟨Y, 0, rfl, by omega⟩⟩⟩
      simp [results, Tryz.f149, go_sem]
end Go.Proofs.YtmbokpfgnicboaaGreat
