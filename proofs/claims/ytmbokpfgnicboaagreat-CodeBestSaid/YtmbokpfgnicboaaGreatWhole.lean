import Derived.Test.YtmbokpfgnicboaaGreatBel
import Derived.Deep.WholeRow
import Derived.Lib.QuietBelow
set_option linter.unusedVariables false
set_option linter.unusedSimpArgs false
/- A whole array or struct read out of a row, or written into one. -/
namespace Go
open Go.RowKit
namespace Hd

theorem rowIs_cells {w : World} {b : Nat} {t : TypeId} {n : Nat} {F : Nat → Value} {cs : Array Value} (h : w.rowIs b t n F) (hn : cs.size = n) (hF : ∀ i, i < n → cs[i]? = some (F i)) : w.heap[b]? = some (.cells cs t (0, 0)) := by
  obtain ⟨c, hb, hcn, hc⟩ := h
  rw [hb]
  have : c = cs := by
    apply Array.ext_getElem?
    intro i
    rcases Nat.lt_or_ge i n with hi | hi
    · rw [hc i hi, hF i hi]
    · rw [Array.getElem?_eq_none (by omega), Array.getElem?_eq_none (by omega)]
  rw [this]

theorem wp_load_whole {P : Program} {ops : Array Oper} {rest : List Oper} {o : Oper} {a : Act} {w : World} {Q : Exit → Act → World → Prop} (hgd : o.guard = none) (ty : TypeId) (x : Operand) (ho : o.op = .load ty x)
    (g : Nat) (hx : a.eval x = .pointer (some ⟨g, 0, none⟩)) (t : TypeId) (n : Nat) (F : Nat → Value) (cs : Array Value) (d : TypeDesc) (hr : w.rowIs g t n F) (hn : cs.size = n) (hF : ∀ i, i < n → cs[i]? = some (F i))
    (hu : P.underlying ty = some d) (hd : (match d with | .struct _ | .array _ _ => true | _ => false) = true) (hi : (P.info? ty).map (·.size) = some n)
    (h : wpList P ops Q rest (a.put o.dst (.agg cs)) w) : wpList P ops Q (o :: rest) a w :=
  wpList_load_row hgd ty x ho g hx t cs (0, 0) d (rowIs_cells hr hn hF) hu hd (by rw [hi, hn]) h

theorem run_load_cells {P : Program} {o : Oper} {a : Act} {w : World} (ty : TypeId) (x : Operand) (ho : o.op = .load ty x)
    (g off : Nat) (hx : a.eval x = .pointer (some ⟨g, off, none⟩)) (n : Nat) (F : Nat → Value) (cs : Array Value) (d : TypeDesc) (hr : ∀ j, j < n → w.cell? ⟨g, off + j, none⟩ = some (F j)) (hn : cs.size = n) (hF : ∀ i, i < n → cs[i]? = some (F i))
    (hu : P.underlying ty = some d) (hd : (match d with | .struct _ | .array _ _ => true | _ => false) = true) (hi : (P.info? ty).map (·.size) = some n) : (execOp a.eval o).run P w = .ok (.value (.agg cs)) w := by
  have hl := run_loadCells_list (P := P) w ⟨g, off, none⟩ cs.toList (fun j v hv => by
    have hadd : (⟨g, off, none⟩ : Addr).add j = ⟨g, off + j, none⟩ := by unfold Addr.add; split <;> simp_all
    have hj : j < n := by
      rcases Nat.lt_or_ge j n with h | h
      · exact h
      · rw [Array.getElem?_toList, Array.getElem?_eq_none (by omega)] at hv; cases hv
    rw [hadd, hr j hj]
    rw [Array.getElem?_toList, hF j hj] at hv
    exact hv)
  simp only [Array.length_toList, Array.toArray_toList] at hl
  obtain ⟨i, hq, hs⟩ := Option.map_eq_some_iff.1 hi
  have hagg : (isAgg ty).run P w = .ok true w := by
    unfold isAgg
    rw [Sem.run_bind, run_underlying hu w]
    cases d <;> simp_all
  have hv : (loadVar ty ⟨g, off, none⟩).run P w = .ok (.agg cs) w := by
    simp [loadVar, Sem.run_bind, hagg, sizeOf, typeInfo, hq, hs, ← hn, hl]
  unfold execOp
  simp only [ho, hx, Instr.loadAt, Instr.sureAddr, Sem.run_bind, Sem.run_pure, Result.andThen_ok, hv]

theorem wp_load_cells {P : Program} {ops : Array Oper} {rest : List Oper} {o : Oper} {a : Act} {w : World} {Q : Exit → Act → World → Prop} (hgd : o.guard = none) (ty : TypeId) (x : Operand) (ho : o.op = .load ty x)
    (g off : Nat) (hx : a.eval x = .pointer (some ⟨g, off, none⟩)) (n : Nat) (F : Nat → Value) (cs : Array Value) (d : TypeDesc) (hr : ∀ j, j < n → w.cell? ⟨g, off + j, none⟩ = some (F j)) (hn : cs.size = n) (hF : ∀ i, i < n → cs[i]? = some (F i))
    (hu : P.underlying ty = some d) (hd : (match d with | .struct _ | .array _ _ => true | _ => false) = true) (hi : (P.info? ty).map (·.size) = some n)
    (h : wpList P ops Q rest (a.put o.dst (.agg cs)) w) : wpList P ops Q (o :: rest) a w := by
  refine wpList_plain hgd fun K hK => ?_
  unfold Oper.wp
  rw [run_load_cells ty x ho g off hx n F cs d hr hn hF hu hd hi]
  exact hK _ _ h

/-- .. inside a region that draws its order. -/
theorem quiet_load_cells {P : Program} {ops : Array Oper} {rest : List Oper} {o : Oper} {a : Act} {C : World → Prop} {Q : Act → Prop} (hw : Region.wanted o (yielded ops a.tmps) = true) (ty : TypeId) (x : Operand) (ho : o.op = .load ty x)
    (g off : Nat) (hx : a.eval x = .pointer (some ⟨g, off, none⟩)) (n : Nat) (F : Nat → Value) (cs : Array Value) (d : TypeDesc) (hr : ∀ w, C w → ∀ j, j < n → w.cell? ⟨g, off + j, none⟩ = some (F j)) (hn : cs.size = n) (hF : ∀ i, i < n → cs[i]? = some (F i))
    (hu : P.underlying ty = some d) (hd : (match d with | .struct _ | .array _ _ => true | _ => false) = true) (hi : (P.info? ty).map (·.size) = some n)
    (h : wpQuiet P ops C Q rest (a.put o.dst (.agg cs))) : wpQuiet P ops C Q (o :: rest) a := by
  refine wpQuiet_step fun K hK => ?_
  rw [if_pos hw]
  exact ⟨.agg cs, fun w hc => by unfold Oper.quietAt; rw [run_load_cells ty x ho g off hx n F cs d (hr w hc) hn hF hu hd hi]; exact ⟨rfl, rfl⟩, hK _ h⟩

theorem wp_store_whole {P : Program} {ops : Array Oper} {rest : List Oper} {o : Oper} {a : Act} {w : World} {Q : Exit → Act → World → Prop} (hgd : o.guard = none) (ty : TypeId) (x y : Operand) (ho : o.op = .store ty x y)
    (g : Nat) (cs : Array Value) (hx : a.eval x = .pointer (some ⟨g, 0, none⟩)) (hy : a.eval y = .agg cs) (t : TypeId) (n : Nat) (F G : Nat → Value) (hr : w.rowIs g t n G) (hn : cs.size = n) (hF : ∀ i, i < n → cs[i]? = some (F i))
    (hi : (P.info? ty).map (·.size) = some n) (h1 : cs.all (·.oneCell') = true)
    (h : ∀ w1, w1.rowIs g t n F → w.grownBy w1 (some g) → wpList P ops Q rest (a.put o.dst undef) w1) : wpList P ops Q (o :: rest) a w := by
  obtain ⟨c, hb, hcn, hc⟩ := hr
  refine wpList_store_row hgd ty x y ho g cs hx hy t c hb (by rw [hi, hn]) (by omega) h1 (h _ ⟨cs, setRow_heap w g c cs t (0, 0) hb, hn, hF⟩ ⟨rfl, rfl, rfl, by simp, fun k _ hk => setRow_other w g k cs (fun e => hk (by rw [e]))⟩)

theorem below_grown {B : Nat} {w w1 : World} {g : Nat} (h : w.grownBy w1 (some g)) (hB : B ≤ g) (hg : g < w.heap.size) : Below B w w1 :=
  ⟨h.os, h.tape, h.output, h.size, fun k hk => h.block k (by omega) (by simp; omega)⟩
theorem kept_grown {w w1 : World} {g k : Nat} (h : w.grownBy w1 (some g)) (hk : k < w.heap.size) (hne : k ≠ g) : w1.heap[k]? = w.heap[k]? := h.block k hk (by simp; omega)
end Hd
end Go
