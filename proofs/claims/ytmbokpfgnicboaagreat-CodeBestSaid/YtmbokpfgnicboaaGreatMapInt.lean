import Derived.Test.YtmbokpfgnicboaaGreatBase
import Derived.Maps.RangeWalk
import Derived.Maps.OwnSet
import Derived.Maps.OwnOps
set_option linter.unusedVariables false
set_option linter.unusedSimpArgs false
/- Maps keyed by whole numbers, whatever their elements: what lies at each key, as a function. -/
namespace Go
open Go.RowKit Go.Maps
namespace Hd

/-- An element reads as itself. -/
def Rv : Value → Option (DataW Value × List MemPlace) := fun v => some (.held v, [])
/-- What lies at a key. -/
def view (D : DataW Value) (x : Int) : Option Value := match D.atKey (.int .i64 x) .nil with
  | .held v => some v
  | _ => none
/-- The key is one that an int can be. -/
def Wf (x : Int) : Prop := (Lit.int .i64 x).wf = true
theorem wf_of {x : Int} (h1 : -9223372036854775808 ≤ x) (h2 : x ≤ 9223372036854775807) : Wf x := by
  unfold Wf
  simp only [Lit.wf, Bool.and_eq_true, decide_eq_true_eq]
  have e1 : IntKind.i64.min = -9223372036854775808 := rfl
  have e2 : IntKind.i64.max = 9223372036854775807 := rfl
  omega

/-- Block b is a map of at most n entries: F x lies at the key x. -/
def MapIs (w : World) (P : Program) (k : TypeId) (b n : Nat) (F : Int → Option Value) : Prop := ∃ D, w.ownsMap P k Rv b n D ∧ ∀ x, Wf x → F x = view D x

variable {P : Program} {k e t : TypeId} {w w' : World} {b n : Nat} {F : Int → Option Value}

theorem mapIs_made (w : World) (P : Program) (k : TypeId) : MapIs (w.alloc (.map #[] 0)) P k w.heap.size 0 (fun _ => none) := ⟨.map [], World.ownsMap_made w P k Rv, fun _ _ => rfl⟩
theorem MapIs.congr {G : Int → Option Value} (h : MapIs w P k b n F) (e : ∀ x, F x = G x) : MapIs w P k b n G := by
  obtain ⟨D, h1, h2⟩ := h
  exact ⟨D, h1, fun x hx => by rw [← e]; exact h2 x hx⟩
theorem MapIs.kept {row : Option Nat} (h : MapIs w P k b n F) (hg : w.grownBy w' row) (hne : some b ≠ row) : MapIs w' P k b n F := by
  obtain ⟨D, h1, h2⟩ := h
  exact ⟨D, h1.kept hg hne, h2⟩
theorem MapIs.below (h : MapIs w P k b n F) (hb : Below w.heap.size w w') : MapIs w' P k b n F :=
  h.kept (row := none) ⟨hb.os, hb.tape, hb.output, hb.size, fun i hi _ => hb.block i hi⟩ (by simp)
theorem MapIs.mono {m : Nat} (h : MapIs w P k b n F) (hm : n ≤ m) : MapIs w P k b m F := by
  obtain ⟨D, h1, h2⟩ := h
  exact ⟨D, h1.mono hm, h2⟩
theorem MapIs.lt (h : MapIs w P k b n F) : b < w.heap.size := by obtain ⟨D, h1, _⟩ := h; exact h1.lt

theorem MapIs.lookup (h : MapIs w P k b n F) (hk : P.underlying k = some (.int .i64)) (ht : P.underlying t = some (.map k e)) {z : Value} (hz : (zeroValue e).run P w = .ok z w) {x : Int} (hx : Wf x) :
    (Instr.lookup t (.map (some b)) (.int .i64 x) false).run P w = .ok ((F x).getD z) w := by
  obtain ⟨D, h1, h2⟩ := h
  obtain ⟨v, ps, hrun, hv⟩ := h1.lookup (int_keyed hk) ht hz (zd := .held z) (zp := []) rfl (keyOf_int_mk hk hx)
  rw [hrun, h2 x hx]
  congr 1
  simp only [Rv, Option.some.injEq, Prod.mk.injEq] at hv
  unfold view
  cases hh : has D (.int .i64 x) with
  | false =>
    rw [atKey_of_not_has hh] at hv ⊢
    simp only [DataW.held.injEq] at hv
    exact hv.1
  | true =>
    have e1 : D.atKey (.int .i64 x) .nil = D.atKey (.int .i64 x) (.held z) := by
      unfold has at hh
      unfold DataW.atKey
      split at hh
      · rename_i es
        cases hf : es.find? (fun p => p.1.sameKey (.int .i64 x)) with
        | none =>
          rw [List.find?_eq_none] at hf
          obtain ⟨p, hp, hs⟩ := List.any_eq_true.1 hh
          exact absurd hs (hf p hp)
        | some p => simp only [hf]
      · cases hh
    rw [e1, ← hv.1]
    rfl

theorem MapIs.update (h : MapIs w P k b n F) (hk : P.underlying k = some (.int .i64)) (ht : P.underlying t = some (.map k e)) (hn : n < maxLen) {x : Int} (hx : Wf x) (v : Value) :
    ∃ w', (Instr.mapUpdate t (.map (some b)) (.int .i64 x) v).run P w = .ok () w' ∧ MapIs w' P k b (n + 1) (fun y => if y = x then some v else F y) ∧ w.grownBy w' (some b) := by
  obtain ⟨D, h1, h2⟩ := h
  have K := int_keyed (P := P) hk
  obtain ⟨w', hrun, h3, h4⟩ := h1.update K ht hn (keyOf_int_mk hk hx) (val := v) (d := .held v) (ps := []) rfl
  refine ⟨w', hrun, ⟨_, h3, fun y hy => ?_⟩, h4⟩
  unfold view
  dsimp only
  by_cases e : y = x
  · subst e
    rw [if_pos rfl, atKey_put_same h1.isMap (K.key (keyOf_int_mk hk hx))]
  · rw [if_neg e, atKey_put_other (fun e' => e (by cases e'; rfl))]
    exact h2 y hy

/-- A range over the map under way: left says which keys are still to come. -/
def MapRng (w : World) (P : Program) (k : TypeId) (b r n : Nat) (F : Int → Option Value) (left : Int → Bool) (cnt : Nat) : Prop :=
  ∃ D leftL, w.ranges P k Rv b r n D leftL cnt ∧ (∀ x, Wf x → F x = view D x) ∧ ∀ x, Wf x → leftL (.int .i64 x) = left x
theorem MapRng.owns {r : Nat} {left : Int → Bool} {cnt : Nat} (h : MapRng w P k b r n F left cnt) : MapIs w P k b n F := by
  obtain ⟨D, l, h1, h2, _⟩ := h
  exact ⟨D, h1.owns, h2⟩
theorem MapRng.kept {r : Nat} {left : Int → Bool} {cnt : Nat} {row : Option Nat} (h : MapRng w P k b r n F left cnt) (hg : w.grownBy w' row) (hb : some b ≠ row) (hr : some r ≠ row) : MapRng w' P k b r n F left cnt := by
  obtain ⟨D, l, h1, h2⟩ := h
  exact ⟨D, l, h1.kept hg hb hr, h2⟩
theorem MapRng.below {r : Nat} {left : Int → Bool} {cnt : Nat} (h : MapRng w P k b r n F left cnt) (hb : Below w.heap.size w w') : MapRng w' P k b r n F left cnt :=
  h.kept (row := none) ⟨hb.os, hb.tape, hb.output, hb.size, fun i hi _ => hb.block i hi⟩ (by simp) (by simp)
theorem MapRng.left_eq {r : Nat} {left : Int → Bool} {cnt : Nat} (h : MapRng w P k b r n F left cnt) : w.rangeLeft b r = cnt := by
  obtain ⟨D, l, h1, _⟩ := h
  exact h1.left_eq
theorem MapRng.lt {r : Nat} {left : Int → Bool} {cnt : Nat} (h : MapRng w P k b r n F left cnt) : r < w.heap.size ∧ r ≠ b := by
  obtain ⟨D, l, h1, _⟩ := h
  exact ⟨h1.lt, h1.ne⟩

theorem has_view {D : DataW Value} (h : w.ownsMap P k Rv b n D) (hk : P.underlying k = some (.int .i64)) (ht : P.underlying t = some (.map k e)) {z : Value} (hz : (zeroValue e).run P w = .ok z w) {x : Int} (hx : Wf x) : has D (.int .i64 x) = (view D x).isSome := by
  obtain ⟨v, ps, hrun, hv⟩ := h.lookup (int_keyed hk) ht hz (zd := .held z) (zp := []) rfl (keyOf_int_mk hk hx)
  simp only [Rv, Option.some.injEq, Prod.mk.injEq] at hv
  unfold view
  cases hh : has D (.int .i64 x) with
  | false => rw [atKey_of_not_has hh]; rfl
  | true =>
    have e1 : D.atKey (.int .i64 x) .nil = D.atKey (.int .i64 x) (.held z) := by
      unfold has at hh
      unfold DataW.atKey
      split at hh
      · rename_i es
        cases hf : es.find? (fun p => p.1.sameKey (.int .i64 x)) with
        | none =>
          rw [List.find?_eq_none] at hf
          obtain ⟨p, hp, hs⟩ := List.any_eq_true.1 hh
          exact absurd hs (hf p hp)
        | some p => simp only [hf]
      · cases hh
    rw [e1, ← hv.1]; rfl

section
variable {ops : Array Oper} {rest : List Oper} {o : Oper} {a : Act} {Q : Exit → Act → World → Prop}

theorem wpList_lookup_mi (hg : o.guard = none) (m x : Operand) (t : TypeId) (hop : o.op = Op.lookup t m x false) (k e : TypeId) (hk : P.underlying k = some (.int .i64)) (ht : P.underlying t = some (.map k e)) (z : Value) (hz : (zeroValue e).run P w = .ok z w)
    (b n : Nat) (F : Int → Option Value) (hm : a.eval m = .map (some b)) (h : MapIs w P k b n F) (y : Int) (hx : a.eval x = .int .i64 y) (hy : Wf y) (hK : wpList P ops Q rest (a.put o.dst ((F y).getD z)) w) :
    wpList P ops Q (o :: rest) a w := by
  refine wpList_plain hg fun K' hK' => ?_
  have hrun := h.lookup hk ht hz hy
  unfold Oper.wp
  simp [execOp, hop, hm, hx, hrun, Result.andThen]
  exact hK' _ _ hK

theorem wpList_update_mi (hg : o.guard = none) (m x v : Operand) (t : TypeId) (hop : o.op = Op.mapUpdate t m x v ∨ o.op = Op.insert t m x v) (k e : TypeId) (hk : P.underlying k = some (.int .i64)) (ht : P.underlying t = some (.map k e))
    (b n : Nat) (F : Int → Option Value) (hm : a.eval m = .map (some b)) (h : MapIs w P k b n F) (hn : n < maxLen) (y : Int) (hx : a.eval x = .int .i64 y) (hy : Wf y) (u : Value) (hv : a.eval v = u)
    (hK : ∀ w', MapIs w' P k b (n + 1) (fun z => if z = y then some u else F z) → w.grownBy w' (some b) → wpList P ops Q rest (a.put o.dst undef) w') :
    wpList P ops Q (o :: rest) a w := by
  refine wpList_plain hg fun K' hK' => ?_
  obtain ⟨w', hrun, h1, h2⟩ := h.update hk ht hn hy u
  unfold Oper.wp
  rcases hop with hop | hop
  · simp [execOp, hop, hm, hx, hv, hrun, Result.andThen]
    exact hK' _ _ (hK w' h1 h2)
  · simp [execOp, hop, hm, hx, hv, hrun, Result.andThen]
    exact hK' _ _ (hK w' h1 h2)

theorem wpList_range_mi (hg : o.guard = none) (m : Operand) (t : TypeId) (hop : o.op = Op.range t m) (k e : TypeId) (hk : P.underlying k = some (.int .i64)) (ht : P.underlying t = some (.map k e)) (z : Value) (hz : (zeroValue e).run P w = .ok z w)
    (b n : Nat) (F : Int → Option Value) (hm : a.eval m = .map (some b)) (h : MapIs w P k b n F)
    (hK : ∀ w' cnt, MapRng w' P k b w.heap.size n F (fun x => (F x).isSome) cnt → w.grownBy w' none → w'.heap.size = w.heap.size + 1 → wpList P ops Q rest (a.put o.dst (.pointer (some ⟨w.heap.size, 0, none⟩))) w') :
    wpList P ops Q (o :: rest) a w := by
  obtain ⟨D, h1, h2⟩ := h
  refine wpList_range_own w hg m t hop k e (int_keyed hk) ht Rv b n D hm h1 (fun w' h3 h4 h5 => hK w' _ ⟨D, _, h3, h2, fun x hx => ?_⟩ h4 h5)
  show _ = (F x).isSome
  rw [h2 x hx]
  exact has_view h1 hk ht hz hx

theorem wpList_next_mi (hg : o.guard = none) (it : Operand) (hop : o.op = Op.next it false) (k : TypeId) (hk : P.underlying k = some (.int .i64)) (b r n : Nat) (F : Int → Option Value) (left : Int → Bool) (cnt : Nat)
    (hit : a.eval it = .pointer (some ⟨r, 0, none⟩)) (h : MapRng w P k b r n F left cnt)
    (hDone : (∀ x, Wf x → left x = false) → wpList P ops Q rest (a.put o.dst (.tuple #[.bool false])) w)
    (hMore : ∀ (x : Int) (c : Value) (w' : World) (cnt' : Nat), Wf x → left x = true → F x = some c → MapRng w' P k b r n F (fun z => left z && decide (z ≠ x)) cnt' → cnt' < cnt →
      w.grownBy w' (some r) → w'.heap.size = w.heap.size → (Instr.entry (.pointer (some ⟨r, 0, none⟩))).run P w' = .ok (.tuple #[.int .i64 x, c]) w' → wpList P ops Q rest (a.put o.dst (.tuple #[.bool true, .int .i64 x, c])) w') :
    wpList P ops Q (o :: rest) a w := by
  obtain ⟨D, l, h1, h2, h3⟩ := h
  refine wpList_next_ranges w hg it hop k (int_keyed hk) Rv (Value.int .i64) id (fun key kl hkey => by obtain ⟨x, rfl, _⟩ := Maps.keyOf_int_inv hk hkey; exact ⟨x, rfl⟩) (fun v y _ => ⟨v, rfl⟩) b r n D l cnt hit h1
    (fun _ hl => hDone fun x hx => by rw [← h3 x hx]; exact hl _) (fun x c kl y w' cnt' hkey hlk hv hat hrg hlt hgr hsz hen => ?_)
  obtain ⟨x', ex, rfl, hwx⟩ := Maps.keyOf_int_inv hk hkey
  cases ex
  have hy : y = (.held c, []) := by
    have : some (DataW.held c, ([] : List MemPlace)) = some y := hv
    cases this; rfl
  refine hMore x c w' cnt' hwx (by rw [← h3 x hwx]; exact hlk) (by rw [h2 x hwx]; unfold view; rw [hat, hy]) ⟨D, _, hrg, h2, fun z hz => ?_⟩ hlt hgr hsz hen
  show (l (.int .i64 z) && !(Lit.int .i64 z).sameKey (.int .i64 x)) = _
  rw [h3 z hz]
  congr 1
  by_cases e : z = x
  · subst e
    rw [WideAt.sameKey_self ((int_keyed (P := P) hk).key hkey)]
    simp
  · rw [sameKey_ne (fun e' => e (by cases e'; rfl))]
    simp [e]
end
end Hd
end Go
