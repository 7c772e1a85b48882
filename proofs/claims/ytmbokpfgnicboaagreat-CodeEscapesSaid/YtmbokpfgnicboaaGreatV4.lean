import Derived.Test.YtmbokpfgnicboaaGreatVa
set_option linter.unusedVariables false
set_option linter.unusedSimpArgs false
/- A whole struct loaded behind a guard. -/
namespace Go
open Go.RowKit
namespace Hd

theorem wp_load_whole_held {P : Program} {ops : Array Oper} {rest : List Oper} {o : Oper} {a : Act} {w : World} {Q : Exit → Act → World → Prop} (hw : Region.wanted o (yielded ops a.tmps) = true) (ty : TypeId) (x : Operand) (ho : o.op = .load ty x)
    (g : Nat) (hx : a.eval x = .pointer (some ⟨g, 0, none⟩)) (t : TypeId) (n : Nat) (F : Nat → Value) (cs : Array Value) (d : TypeDesc) (hr : w.rowIs g t n F) (hn : cs.size = n) (hF : ∀ i, i < n → cs[i]? = some (F i))
    (hu : P.underlying ty = some d) (hd : (match d with | .struct _ | .array _ _ => true | _ => false) = true) (hi : (P.info? ty).map (·.size) = some n)
    (h : wpList P ops Q rest (a.put o.dst (.agg cs)) w) : wpList P ops Q (o :: rest) a w :=
  wpList_step fun K hK => by
    rw [if_pos hw]
    unfold Oper.wp
    rw [run_load_cells ty x ho g 0 hx n F cs d (fun j hj => by rw [Nat.zero_add]; exact hr.cell hj) hn hF hu hd hi]
    exact hK _ _ h
end Hd
end Go
