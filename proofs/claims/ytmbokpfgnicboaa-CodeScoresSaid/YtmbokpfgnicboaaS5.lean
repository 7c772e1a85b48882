import Derived.Test.YtmbokpfgnicboaaS4
set_option linter.unusedVariables false
set_option linter.unusedSimpArgs false
/- The walks of codes of scores: what a place adds; scores. -/
namespace Go.Proofs.Ytmbokpfgnicboaa
open Go.RowKit Go.Hd Go.Sort _root_.Hd

/-- What a place with the bias a adds to the score. -/
def pt (Bs a : Nat) (x y : Nat) : Int := if y = 2 then 0 else if y = 0 then (if x = 0 then (a : Int) else (a : Int) - Bs) else (if x = 0 then -(a : Int) else (Bs : Int) - a)
theorem pt_lt {Bs a x y : Nat} (h1 : Bs < 1000) (h2 : a < 1000) : -1000 < pt Bs a x y ∧ pt Bs a x y < 1000 := by
  unfold pt; split <;> (try split) <;> (try split) <;> omega
/-- The score after n places. -/
def scN (Bs : Nat) (a x y : Nat → Nat) : Nat → Int
  | 0 => 0
  | n + 1 => scN Bs a x y n + pt Bs (a n) (x n) (y n)
theorem scN_lt {Bs : Nat} {a x y : Nat → Nat} {n : Nat} (h1 : Bs < 1000) (h2 : ∀ j, j < n → a j < 1000) : ∀ k, k ≤ n → -(1000 * (k : Int)) ≤ scN Bs a x y k ∧ scN Bs a x y k ≤ 1000 * (k : Int)
  | 0, _ => by simp [scN]
  | k + 1, hk => by
    have := scN_lt (x := x) (y := y) h1 h2 k (by omega)
    have := pt_lt (x := x k) (y := y k) h1 (h2 k (by omega))
    simp only [scN]; omega

set_option maxHeartbeats 1000000 in
theorem gains_any (U : Int) (Bs : Nat) (v : Value) (K : Nat → Nat) (n : Nat) (a : Nat → Nat) (Y : Nat → Nat) (ys : Value) (i : Nat) (w : World) (h : RdV w v n (fun j => .int .i64 (a j : Int))) (hy : Rd w .u8 ys n Y) (hi : i < n) (hB : Bs < 1000) (ha : a i < 1000) (hY : Y i ≤ 2) :
    Calls Try.prog 57 #[scV U (Bs : Int) v K, ys, .int .i64 i] w fun e w' => e = .returned (.agg #[.int .i64 (pt Bs (a i) 0 (Y i)), .int .i64 (pt Bs (a i) 1 (Y i))]) ∧ Below w.heap.size w w' := by
  obtain ⟨A, cap, rfl, _, _, h3⟩ := h
  obtain ⟨A2, cap2, rfl, _, _, h4⟩ := hy
  obtain ⟨b, off, rfl, hc⟩ := h3 (by omega)
  obtain ⟨b2, off2, rfl, hc2⟩ := h4 (by omega)
  have hs := sc_row w U (Bs : Int) (.slice (some ⟨b, off, none⟩) n cap) K 34
  have hi1 : w.cell? ⟨b, off + i, none⟩ = some (.int .i64 (a i : Int)) := hc i hi
  have hi2 := hc2 i hi
  have s1 := hs.cell (i := 1) (by omega)
  have s2 := hs.cell (i := 2) (by omega)
  dsimp only [scF] at s1 s2
  have hb1 : b < w.heap.size := World.block_lt_of_cell? w _ hi1
  have hb2 : b2 < w.heap.size := World.block_lt_of_cell? w _ hi2
  clear h3 h4 hc hc2 hs
  generalize Y i = y at *
  generalize a i = Av at *
  by_cases y0 : y = 0
  · subst y0
    go_enter Try.func57, Try.ntmps57
    go_wp2
    refine bodyPost_ret (v := .agg #[.int .i64 (pt Bs Av 0 0), .int .i64 (pt Bs Av 1 0)]) ?_ rfl ⟨rfl, ?_⟩
    · simp [results, Try.f57, go_sem, pt]
    · (repeat' (first | (with_reducible exact Below.refl _ _) | (with_reducible assumption) | (with_reducible refine Below.alloc ?_ ?_ _) | (with_reducible refine Below.drew ?_) | (with_reducible refine below_drewN ?_ _) | (with_reducible refine Below.setCell ?_ ?_ _) | omega | (simp only [Go.Hd.size_drewN, World.size_alloc, World.size_setCell, World.size_drew]; omega) | (simp; omega)))
  · by_cases y1 : y = 1
    · subst y1
      go_enter Try.func57, Try.ntmps57
      go_wp2
      refine bodyPost_ret (v := .agg #[.int .i64 (pt Bs Av 0 1), .int .i64 (pt Bs Av 1 1)]) ?_ rfl ⟨rfl, ?_⟩
      · simp [results, Try.f57, go_sem, pt]
      · (repeat' (first | (with_reducible exact Below.refl _ _) | (with_reducible assumption) | (with_reducible refine Below.alloc ?_ ?_ _) | (with_reducible refine Below.drew ?_) | (with_reducible refine below_drewN ?_ _) | (with_reducible refine Below.setCell ?_ ?_ _) | omega | (simp only [Go.Hd.size_drewN, World.size_alloc, World.size_setCell, World.size_drew]; omega) | (simp; omega)))
    · obtain rfl : y = 2 := by omega
      go_enter Try.func57, Try.ntmps57
      go_wp2
      refine bodyPost_ret (v := .agg #[.int .i64 (pt Bs Av 0 2), .int .i64 (pt Bs Av 1 2)]) ?_ rfl ⟨rfl, ?_⟩
      · simp [results, Try.f57, go_sem, pt]
      · (repeat' (first | (with_reducible exact Below.refl _ _) | (with_reducible assumption) | (with_reducible refine Below.alloc ?_ ?_ _) | (with_reducible refine Below.drew ?_) | (with_reducible refine below_drewN ?_ _) | (with_reducible refine Below.setCell ?_ ?_ _) | omega | (simp only [Go.Hd.size_drewN, World.size_alloc, World.size_setCell, World.size_drew]; omega) | (simp; omega)))

theorem refPart_any (Bs A x y : Nat) (w : World) (hB : Bs < 1000) (hA : A < 1000) (hx : x ≤ 1) (hy : y ≤ 2) :
    Calls Try.prog 58 #[.int .i64 Bs, .int .i64 A, .int .u8 x, .int .u8 y] w fun e w' => e = .returned (.int .i64 (pt Bs A x y)) ∧ w = w' := by
  have h : (x = 0 ∨ x = 1) ∧ (y = 0 ∨ y = 1 ∨ y = 2) := by omega
  rcases h with ⟨rfl | rfl, rfl | rfl | rfl⟩ <;>
  · go_enter Try.func58, Try.ntmps58
    go_wp2
    go_ret
    exact ⟨by simp [pt], rfl⟩
end Go.Proofs.Ytmbokpfgnicboaa
