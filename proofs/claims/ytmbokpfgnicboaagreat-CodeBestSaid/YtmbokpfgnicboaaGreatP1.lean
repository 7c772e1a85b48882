import Derived.Test.YtmbokpfgnicboaaGreatN3
import Derived.Test.YtmbokpfgnicboaaGreatBel
import Derived.Deep.DeepCutAuto
import Derived.Deep.CutBlock
set_option linter.unusedVariables false
set_option linter.unusedSimpArgs false
/- The walks of package number: long division: what is ahead of it. -/
namespace Go.Proofs.YtmbokpfgnicboaaGreat
open Go.RowKit Go.Hd _root_.Hd

set_option maxRecDepth 100000 in
/-- What trim leaves, and where it lies. -/
theorem trim_at (n cap : Nat) (f : Nat → Nat) (b off : Nat) (w : World) (h : Rd w .u32 (.slice (some ⟨b, off, none⟩) n cap) n f) (hf : ∀ j, j < n → f j < B) :
    Calls Tryz.prog 152 #[.slice (some ⟨b, off, none⟩) n cap] w fun e w' => (∃ k, e = .returned (.slice (some ⟨b, off, none⟩) k cap) ∧ k ≤ n ∧ Canon f k ∧ val f k = val f n) ∧ w = w' := by
  have hR := h
  obtain ⟨A, cap, hA, h1, h2, h3⟩ := h
  cases hA
  have hl : n ≤ 9223372036854775807 := by unfold maxLen at h2; omega
  have H3 := Lib.hid h3
  have HF := Lib.hid hf
  clear h3 hf
  go_enter Tryz.func152, Tryz.ntmps152
  go_wp2
  go_loop [3] (fun i => ∃ k : Nat, k ≤ n ∧ i = .int .i64 k ∧ Hid (∀ j, k ≤ j → j < n → f j = 0)) (fun i => (intOf i).toNat)
  case atStart => exact ⟨n, Nat.le_refl _, rfl, fun j h1 h2 => by omega⟩
  case round =>
    obtain ⟨k, hk, rfl, hz⟩ := hrel
    by_cases hk0 : 0 < k
    · obtain ⟨b2, off2, e2, hc⟩ := H3.out (by omega)
      cases e2
      have hci := hc (k - 1) (by omega)
      have hfi : f (k - 1) < 4294967296 := HF.out (k - 1) (by omega)
      by_cases hz0 : f (k - 1) = 0
      · have HZ := Lib.hid hz0
        have hq : ((f (k - 1) : Nat) : Int) = 0 := by omega
        rw [hz0] at hci
        clear hc hz0 hq
        go_wp2
        go_round
        case rel => exact ⟨k - 1, by omega, by go_num, fun j h1 h2 => by
          rcases Nat.lt_or_ge j k with h3 | h3
          · have : j = k - 1 := by omega
            rw [this]; exact HZ.out
          · exact hz.out j h3 h2⟩
        case measure => simp [intOf]; omega
      · have HZ := Lib.hid hz0
        clear hc
        go_wp2
        go_ret
        obtain ⟨q1, q2⟩ := canon_trim HF.out hk hz.out (fun _ => HZ.out)
        exact ⟨⟨k, rfl, hk, q1, q2⟩, rfl⟩
    · obtain rfl : k = 0 := by omega
      go_wp2
      go_ret
      obtain ⟨q1, q2⟩ := canon_trim HF.out hk hz.out (fun h => by omega)
      exact ⟨⟨0, rfl, hk, q1, q2⟩, rfl⟩

/-- A slice that lies in a block from B on, or nowhere. -/
def Fresh (B : Nat) (v : Value) : Prop := ∃ A n c, v = .slice A n c ∧ (A = none ∨ ∃ b off, A = some ⟨b, off, none⟩ ∧ B ≤ b)
theorem rd_le {w : World} {k : IntKind} {A : Option Addr} {n n' c c' : Nat} {f : Nat → Nat} (h : Rd w k (.slice A n c) n f) (hn : n' ≤ n) (hc : n' ≤ c') (hm : c' ≤ 9223372036854775807) : Rd w k (.slice A n' c') n' f := by
  obtain ⟨A', cap, e, h1, h2, h3⟩ := h
  cases e
  exact ⟨A, c', rfl, hc, by unfold maxLen; omega, fun h0 => by
    obtain ⟨b, off, hA, hcs⟩ := h3 (by omega)
    exact ⟨b, off, hA, fun j hj => hcs j (by omega)⟩⟩
theorem Fresh.mono {B C : Nat} {v : Value} (h : Fresh B v) (hC : C ≤ B) : Fresh C v := by
  obtain ⟨A, n, c, e, h⟩ := h
  exact ⟨A, n, c, e, h.imp id fun ⟨b, off, h1, h2⟩ => ⟨b, off, h1, by omega⟩⟩
/-- The quotient and the rest. -/
def PartedPost (a b : Nat) (w : World) (e : Ending) (w' : World) : Prop := ∃ v' u', e = .returned (.tuple #[v', u']) ∧ Nt w' v' (a / b) ∧ Nt w' u' (a % b) ∧ Below w.heap.size w w' ∧ Fresh w.heap.size v'

set_option maxRecDepth 100000 in
set_option maxHeartbeats 1000000 in
theorem parted_small (a b : Nat) (v u : Value) (w : World) (hv : Nt w v a) (hu : Nt w u b) (hab : a < b) (ha : a < B ^ 1000) :
    Calls Tryz.prog 149 #[v, u] w (PartedPost a b w) := by
  have hal := ((Below.refl _ w).alloc (Nat.le_refl _) (.cells #[v] 25)).alloc (by simp) (.cells #[u] 25)
  have HO := Lib.hid (order_nt a b v u _ (hv.below hal) (hu.below hal))
  rw [show ord a b = -1 by simp [ord, hab]] at HO
  have HV := Lib.hid hv
  have HA := Lib.hid hal
  have HCl := Lib.hid (fun W (h : Nt W v a) => clone_nt a v W h 0 ha)
  obtain ⟨A, n, c, rfl⟩ := hv.shape
  obtain ⟨A2, n2, c2, rfl⟩ := hu.shape
  have hq1 : a / b = 0 := Nat.div_eq_of_lt hab
  have hq2 : a % b = a := Nat.mod_eq_of_lt hab
  have Q1 := Lib.hid hq1
  have Q2 := Lib.hid hq2
  clear hv hu hab hal ha hq1 hq2
  go_enter Tryz.func149, Tryz.ntmps149
  go_wp2_with fail
  refine HO.out.mono ?_
  rintro e w1 ⟨rfl, hb1⟩
  have hc1 : w1.cell? ⟨w.heap.size, 0, none⟩ = some (.slice A n c) := cell_below hb1 (cell_below ((Below.refl _ _).alloc (Nat.le_refl _) _) (cell_new w _ _).1)
  have HB1 := Lib.hid (below_then HA.out hb1)
  have HV1 := Lib.hid (HV.out.below HB1.out)
  clear hb1
  go_wp2_with fail
  refine (HCl.out _ HV1.out).mono ?_
  rintro e w2 ⟨v', rfl, hN, hB⟩
  have HN := Lib.hid hN
  have HB2 := Lib.hid (below_then HB1.out hB)
  clear hN hB
  go_wp2
  go_ret2
  exact ⟨_, _, rfl, by rw [Q1.out]; exact Nt.nil _, by rw [Q2.out]; exact HN.out, HB2.out, ⟨none, 0, 0, rfl, .inl rfl⟩⟩
end Go.Proofs.YtmbokpfgnicboaaGreat
