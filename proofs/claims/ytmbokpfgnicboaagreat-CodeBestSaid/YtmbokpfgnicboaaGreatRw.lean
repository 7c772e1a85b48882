import Derived.ProofKit
import Derived.OpenShut
import Derived.ShutString
import Derived.ChangeOld
import Derived.SizedLaws
import Derived.Deep.Matrix
import Derived.Test.YtmbokpfgnicboaaGreatApp
set_option linter.unusedVariables false
set_option linter.unusedSimpArgs false
/- From a law's arguments, read as data, to what the walks ask; the sizes of what is read. -/
namespace Go
open Go.RowKit Go.ChangeShapes Go.WideShapes Go.ChangeAt Go.Deep
namespace Hd

theorem add_plain (b off j : Nat) : (⟨b, off, none⟩ : Addr).add j = ⟨b, off + j, none⟩ := by unfold Addr.add; split <;> simp_all
theorem addr_plain {W : World} {a : Addr} {v : Value} (h : W.cell? (a.add 0) = some v) : ∃ b off, a = ⟨b, off, none⟩ := by
  obtain ⟨b, off, spot⟩ := a
  have hspot : spot = none := by simpa [Addr.add] using World.cell?_spot h
  subst hspot
  exact ⟨b, off, rfl⟩

theorem wf_u8 {n : Int} (h : (Lit.int .u8 n).wf = true) : 0 ≤ n ∧ n < 256 := by
  simp only [Lit.wf, Bool.and_eq_true, decide_eq_true_eq] at h
  have h1 : IntKind.u8.min = 0 := rfl
  have h2 : IntKind.u8.max = 255 := rfl
  omega
theorem wf_u32 {n : Int} (h : (Lit.int .u32 n).wf = true) : 0 ≤ n ∧ n < 4294967296 := by
  simp only [Lit.wf, Bool.and_eq_true, decide_eq_true_eq] at h
  have h1 : IntKind.u32.min = 0 := rfl
  have h2 : IntKind.u32.max = 4294967295 := rfl
  omega
theorem wf_i64 {n : Int} (h : (Lit.int .i64 n).wf = true) : -9223372036854775808 ≤ n ∧ n ≤ 9223372036854775807 := by
  simp only [Lit.wf, Bool.and_eq_true, decide_eq_true_eq] at h
  have h1 : IntKind.i64.min = -9223372036854775808 := rfl
  have h2 : IntKind.i64.max = 9223372036854775807 := rfl
  omega
theorem wf_u64 {n : Int} (h : (Lit.int .u64 n).wf = true) : 0 ≤ n ∧ n < 18446744073709551616 := by
  simp only [Lit.wf, Bool.and_eq_true, decide_eq_true_eq] at h
  have h1 : IntKind.u64.min = 0 := rfl
  have h2 : IntKind.u64.max = 18446744073709551615 := rfl
  omega

/-- The numbers of a list that are not negative. -/
def nat (zs : List Int) (j : Nat) : Nat := (zs.getD j 0).toNat

theorem rd_of_list {W : World} {k : IntKind} {a : Option Addr} {len cap : Nat} {zs : List Int} (hl : len ≤ cap) (hm : cap ≤ maxLen) (hz : zs.length = cap) (h0 : a = none → cap = 0)
    (hc : ∀ a', a = some a' → ∀ c, c < cap → W.cell? (a'.add c) = some (.int k (zs.getD c 0))) (hw : ∀ n ∈ zs, 0 ≤ n) : Rd W k (.slice a len cap) len (nat zs) := by
  refine ⟨a, cap, rfl, hl, hm, fun hn => ?_⟩
  cases a with
  | none => have := h0 rfl; omega
  | some a' =>
    have h1 := hc a' rfl
    obtain ⟨b, off, rfl⟩ := addr_plain (h1 0 (by omega))
    refine ⟨b, off, rfl, fun j hj => ?_⟩
    have h2 := h1 j (by omega)
    rw [add_plain] at h2
    rw [h2]
    have hmem : zs.getD j 0 ∈ zs := by
      rw [List.getD_eq_getElem?_getD, List.getElem?_eq_getElem (by omega)]
      exact List.getElem_mem _
    have := hw _ hmem
    unfold nat
    congr 2
    omega
theorem nat_lt {zs : List Int} {M : Nat} (hM : 0 < M) (h : ∀ n ∈ zs, n < (M : Int)) (j : Nat) : nat zs j < M := by
  unfold nat
  rcases Nat.lt_or_ge j zs.length with hj | hj
  · have hmem : zs.getD j 0 ∈ zs := by
      rw [List.getD_eq_getElem?_getD, List.getElem?_eq_getElem hj]
      exact List.getElem_mem _
    have := h _ hmem
    omega
  · rw [List.getD_eq_getElem?_getD, List.getElem?_eq_none hj]
    simpa using hM

/-- A slice argument of whole numbers that are not negative, opened. -/
theorem open_rd {H : Type} {enc : TypeId × Value → H} {P : Program} {W : World} {t e : TypeId} {k : IntKind} {a : Option Addr} {len cap : Nat} {d : DataW H} {p : List MemPlace} (ht : P.underlying t = some (.slice e)) (he : P.underlying e = some (.int k)) (hc1 : P.cellsOf e = 1)
    (h : DataW.Trod enc P W 0 (fun _ => true) true t (.slice a len cap) d p) (hk : ∀ n, (Lit.int k n).wf = true → 0 ≤ n) :
    ∃ zs : List Int, Rd W k (.slice a len cap) len (nat zs) ∧ ∀ n ∈ zs, (Lit.int k n).wf = true := by
  obtain ⟨fuel, hf⟩ := h
  rcases open_ints ht he hc1 hf with ⟨hcs, _⟩ | ⟨x, l, c, zs, hcs, _, hl, hm, hz, _, hcell, hwz⟩
  · simp [Value.cells] at hcs
    obtain ⟨rfl, rfl, rfl⟩ := hcs
    exact ⟨[], Rd.nil _ _ _, by simp⟩
  · simp [Value.cells] at hcs
    obtain ⟨rfl, rfl, rfl⟩ := hcs
    simp only [if_true] at hz
    refine ⟨zs, rd_of_list hl hm hz (fun h => by cases h) (fun a' ha c hc => ?_) (fun n hn => hk n (hwz n hn)), hwz⟩
    cases ha
    exact hcell c (by rw [hz]; exact hc)

/-- .. and its length: it takes no more bytes than the form's reach. -/
theorem sized_rd {H : Type} {enc : TypeId × Value → H} {P : Program} {W : World} {ts : List TypeId} {ds : List (DataW H)} (h : (DataW.weightsEach P ts ds).all (· ≤ reachBytes) = true) {j t e : Nat} {k : IntKind} {a : Option Addr} {len cap bytes : Nat} {d : DataW H} {p : List MemPlace}
    (htj : ts[j]? = some t) (hdj : ds[j]? = some d) (ht : P.underlying t = some (.slice e)) (he : P.underlying e = some (.int k)) (hc1 : P.cellsOf e = 1) (hb : P.bytesOf e = bytes)
    (hd : DataW.Trod enc P W 0 (fun _ => true) true t (.slice a len cap) d p) : len * bytes ≤ 140737488351232 := by
  obtain ⟨fuel, hf⟩ := hd
  rcases open_ints ht he hc1 hf with ⟨hcs, _⟩ | ⟨x, l, c, zs, hcs, _, hl, hm, hz, hx, hcell, hwz⟩
  · simp [Value.cells] at hcs
    obtain ⟨rfl, rfl, rfl⟩ := hcs
    omega
  · simp [Value.cells] at hcs
    obtain ⟨rfl, rfl, rfl⟩ := hcs
    simp only [if_true] at hz
    simp only [Prod.mk.injEq] at hx
    obtain ⟨rfl, _⟩ := hx
    have h1 := sized_slice h htj hdj ht
    simp only [lits, List.length_map, List.length_take, List.length_drop, hb] at h1
    have hr : reachBytes = 140737488351232 := rfl
    have h2 : len * bytes ≤ (min len zs.length + (zs.length - len)) * bytes := Nat.mul_le_mul_right _ (by omega)
    omega

theorem weightsAll_mem {H : Type} {P : Program} {e : TypeId} : ∀ {ds : List (DataW H)} {d : DataW H}, d ∈ ds → ∀ n ∈ d.weights P e, n ∈ DataW.weightsAll P e ds
  | d0 :: ds, d, hd, n, hn => by
    simp only [DataW.weightsAll, List.mem_append]
    rcases List.mem_cons.1 hd with rfl | h
    · exact .inl hn
    · exact .inr (weightsAll_mem h n hn)
  | [], _, hd, _, _ => by simp at hd

/-- A slice of slices of bytes, opened: its words, and the sizes of all. -/
theorem open_words {H : Type} {enc : TypeId × Value → H} {P : Program} {W : World} {ts : List TypeId} {ds : List (DataW H)} (hz : (DataW.weightsEach P ts ds).all (· ≤ reachBytes) = true) {j : Nat} {t e q : TypeId} {a : Option Addr} {len cap be : Nat} {d : DataW H} {p : List MemPlace}
    (htj : ts[j]? = some t) (hdj : ds[j]? = some d) (ht : P.underlying t = some (.slice e)) (he : P.underlying e = some (.slice q)) (hq : P.underlying q = some (.int .u8)) (ce : P.cellsOf e = 1) (cq : P.cellsOf q = 1) (hbe : P.bytesOf e = be) (hbq : P.bytesOf q = 1)
    (h : DataW.Trod enc P W 0 (fun _ => true) true t (.slice a len cap) d p) :
    ∃ (L : Nat → Nat) (G : Nat → Nat → Nat) (F : Nat → Value), RdV W (.slice a len cap) len F ∧ (∀ k, k < len → Rd W .u8 (F k) (L k) (G k)) ∧ (∀ k, k < len → ∀ j, j < L k → G k j < 256) ∧ len * be ≤ 140737488351232 ∧ ∀ k, k < len → L k ≤ 140737488351232 := by
  have hr : reachBytes = 140737488351232 := rfl
  obtain ⟨fuel, hf⟩ := h
  rcases open_int_rows ht he hq ce cq hf with ⟨hcs, _⟩ | ⟨a', len', cap', A, L, C, Z, hcs, _, hl, hm, hx, hrow⟩
  · simp [Value.cells] at hcs
    obtain ⟨rfl, rfl, rfl⟩ := hcs
    exact ⟨fun _ => 0, fun _ _ => 0, fun _ => undef, ⟨none, 0, rfl, Nat.le_refl _, by unfold maxLen; omega, fun h => by omega⟩, fun k hk => by omega, fun k hk => by omega, by omega, fun k hk => by omega⟩
  · simp [Value.cells] at hcs
    obtain ⟨rfl, rfl, rfl⟩ := hcs
    simp only [Prod.mk.injEq] at hx
    obtain ⟨rfl, _⟩ := hx
    have h1 := sized_slice hz htj hdj ht
    simp only [List.length_map, List.length_range, hbe] at h1
    refine ⟨L, fun k => nat (Z k), fun k => .slice (A k) (L k) (C k), ⟨some a', cap, rfl, hl, hm, fun hn => ?_⟩, fun k hk => ?_, fun k hk j _ => ?_, ?_, fun k hk => ?_⟩
    · obtain ⟨b, off, rfl⟩ := addr_plain (hrow 0 (by omega)).1
      exact ⟨b, off, rfl, fun j hj => by rw [← add_plain]; exact (hrow j (by omega)).1⟩
    · obtain ⟨_, g1, g2, g3, g4, g5, g6⟩ := hrow k (by omega)
      exact rd_of_list g1 g2 g3 g5 (fun a'' ha => (g6 a'' ha).2) (fun n hn => (wf_u8 (g4 n hn)).1)
    · obtain ⟨_, g1, g2, g3, g4, g5, g6⟩ := hrow k (by omega)
      exact nat_lt (M := 256) (by omega) (fun n hn => (wf_u8 (g4 n hn)).2) j
    · have h2 : len * be ≤ (len + (cap - len)) * be := Nat.mul_le_mul_right _ (by omega)
      omega
    · obtain ⟨_, g1, g2, g3, g4, g5, g6⟩ := hrow k (by omega)
      cases hA : A k with
      | none => have := g5 hA; omega
      | some a'' =>
        have hmem : ((lits .u8 ((Z k).take (L k)) : List (DataW H)).length + (lits .u8 ((Z k).drop (L k)) : List (DataW H)).length) * P.bytesOf q ∈ DataW.weightsEach P ts ds := by
          refine DataW.weights_mem_each htj hdj _ ?_
          simp only [DataW.weights, ht]
          refine List.mem_cons_of_mem _ (List.mem_append.2 (.inl ?_))
          refine weightsAll_mem (d := intRow .u8 (A k) (L k) (Z k)) (List.mem_map.2 ⟨k, List.mem_range.2 hk, rfl⟩) _ ?_
          simp [intRow, hA, DataW.weights, he]
        have h3 := List.all_eq_true.1 hz _ hmem
        simp only [lits, List.length_map, List.length_take, List.length_drop, hbq, decide_eq_true_eq] at h3
        omega

end Hd
end Go
