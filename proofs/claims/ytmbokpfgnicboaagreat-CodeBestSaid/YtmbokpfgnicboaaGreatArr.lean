import Derived.Test.YtmbokpfgnicboaaGreatBase
set_option linter.unusedVariables false
set_option linter.unusedSimpArgs false
/- '==' of two arrays of whole numbers. -/
namespace Go
open Go.RowKit
namespace Hd

/-- '==' of two arrays of whole numbers, element by element. -/
def eqAll (d : Nat) (elem : TypeId) (n : Nat) (xs ys : Array Value) : List Nat → Sem Bool
  | [] => pure true
  | i :: is => do
    let a ← part elem xs (i * n)
    let b ← part elem ys (i * n)
    let r ← Op.equalIn d elem a b
    if (!r) = true then pure false else eqAll d elem n xs ys is

theorem run_equalIn_array {P : Program} (w : World) (d : Nat) (t elem : TypeId) (len n : Nat) (xs ys : Array Value) (ht : P.underlying t = some (.array len elem)) (hs : ∀ w, (sizeOf elem).run P w = .ok n w) :
    (Op.equalIn (d + 1) t (.agg xs) (.agg ys)).run P w = (eqAll d elem n xs ys (List.range len)).run P w := by
  simp only [Op.equalIn, Sem.run_bind, run_underlying ht, Result.andThen_ok, hs]
  simp only [Std.Legacy.Range.forIn_eq_forIn_range', Std.Legacy.Range.size, Nat.sub_zero, Nat.add_sub_cancel, Nat.div_one]
  rw [List.range_eq_range']
  generalize List.range' 0 len = is
  clear ht hs
  induction is generalizing w with
  | nil => simp [eqAll]
  | cons i is ih =>
    simp only [List.forIn_cons, eqAll, Sem.run_bind]
    generalize (part elem xs (i * n)).run P w = r1
    cases r1 with
    | halt h w1 => simp
    | ok a w1 =>
      simp only [Result.andThen_ok]
      generalize (part elem ys (i * n)).run P w1 = r2
      cases r2 with
      | halt h w2 => simp
      | ok b w2 =>
        simp only [Result.andThen_ok]
        generalize (Op.equalIn d elem a b).run P w2 = r3
        cases r3 with
        | halt h w3 => simp
        | ok c w3 =>
          simp only [Result.andThen_ok]
          cases c
          · simp
          · have := ih w3
            simpa using this

theorem run_eqAll_ints {P : Program} (d : Nat) (elem : TypeId) (k : IntKind) (he : P.underlying elem = some (.int k)) (xs ys : List Int) (w : World) (is : List Nat) (h1 : ∀ i ∈ is, i < xs.length) (h2 : ∀ i ∈ is, i < ys.length) :
    (eqAll (d + 1) elem 1 (xs.map (Value.int k)).toArray (ys.map (Value.int k)).toArray is).run P w = .ok (is.all fun i => xs.getD i 0 == ys.getD i 0) w := by
  have hA : ∀ w, (isAgg elem).run P w = .ok false w := fun w => by
    simp [isAgg, run_underlying he]
  have hp : ∀ (c : Array Value) (i : Nat) (v : Value) (w : World), c[i]? = some v → (part elem c i).run P w = .ok v w := fun c i v w h => by
    simp [part, hA, h]
  induction is with
  | nil => simp [eqAll]
  | cons i is ih =>
    have hi1 := h1 i (by simp)
    have hi2 := h2 i (by simp)
    have g1 : (xs.map (Value.int k)).toArray[i * 1]? = some (.int k (xs.getD i 0)) := by simp [hi1]
    have g2 : (ys.map (Value.int k)).toArray[i * 1]? = some (.int k (ys.getD i 0)) := by simp [hi2]
    simp only [eqAll, Sem.run_bind, hp _ _ _ _ g1, hp _ _ _ _ g2, Result.andThen_ok]
    have hq : (Op.equalIn (d + 1) elem (.int k (xs.getD i 0)) (.int k (ys.getD i 0))).run P w = .ok (xs.getD i 0 == ys.getD i 0) w := by
      simp [Op.equalIn, run_underlying he]
    rw [hq]
    simp only [Result.andThen_ok, List.all_cons]
    cases xs.getD i 0 == ys.getD i 0
    · simp
    · simpa using ih (fun j hj => h1 j (by simp [hj])) (fun j hj => h2 j (by simp [hj]))

theorem run_eql_ints {P : Program} (t elem : TypeId) (k : IntKind) (len : Nat) (ht : P.underlying t = some (.array len elem)) (he : P.underlying elem = some (.int k)) (hs : ∀ w, (sizeOf elem).run P w = .ok 1 w)
    (xs ys : List Int) (h1 : xs.length = len) (h2 : ys.length = len) (w : World) :
    (binOp .eql t (.agg (xs.map (Value.int k)).toArray) (.agg (ys.map (Value.int k)).toArray)).run P w = .ok (.bool ((List.range len).all fun i => xs.getD i 0 == ys.getD i 0)) w := by
  have h : ∀ d, (Op.equalIn (d + 2) t (.agg (xs.map (Value.int k)).toArray) (.agg (ys.map (Value.int k)).toArray)).run P w = .ok ((List.range len).all fun i => xs.getD i 0 == ys.getD i 0) w := fun d => by
    rw [run_equalIn_array w (d + 1) t elem len 1 _ _ ht hs, run_eqAll_ints d elem k he xs ys w _ (fun i hi => by rw [h1]; exact List.mem_range.1 hi) (fun i hi => by rw [h2]; exact List.mem_range.1 hi)]
  simp only [binOp, Op.equal, Op.maxDepth, Sem.run_bind, h 9998]
  simp


end Hd
end Go
