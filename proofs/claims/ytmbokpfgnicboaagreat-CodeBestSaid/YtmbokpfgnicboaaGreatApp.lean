import Derived.Laws.AppendOwnNone
import Derived.Laws.BytesArg
import Derived.Test.YtmbokpfgnicboaaGreatBase
set_option linter.unusedVariables false
set_option linter.unusedSimpArgs false
/- append onto a row of the call's own, whatever slice is appended. -/
namespace Go
open Go.RowKit
namespace Hd

section
variable {P : Program} {ops : Array Oper} {rest : List Oper} {o : Oper} {a : Act} {Q : Exit → Act → World → Prop}

theorem run_append_nil_any {w : World} (base : Nat) (t ty e : TypeId) (i : TypeInfo) (size : Nat) (ht : P.underlying t = some (.slice e)) (hi : P.info? e = some i)
    (v : Value) (n c : Nat) (xs : List Value) (hown : w.ownsRow base e size v n xs) :
    (Builtin.append_ #[t, t] ty #[v, .slice none 0 c]).run P w = .ok v w := by
  rcases hown.2 with ⟨rfl, rfl⟩ | ⟨g, cap, cur, rfl, _, _, hnc, _⟩
  · simp [Builtin.append_, run_underlying ht, sizeOf, typeInfo, hi, Builtin.lenOf, Builtin.firstCells]
  · simp [Builtin.append_, run_underlying ht, sizeOf, typeInfo, hi, Builtin.lenOf, Builtin.firstCells, hnc, storeCells]

/-- append(v, sv...): v owns xs; sv reads as m values, a cell each. -/
theorem wp_app {W : World} (base : Nat) (hgd : o.guard = none) (s x : Operand) (t e : TypeId) (z : Value) (bytes : Nat)
    (ho : o.op = .call { callee := .builtin .append, args := #[s, x], argTypes := #[t, t] })
    (ht : P.underlying t = some (.slice e)) (hinfo : (P.info? e).map (fun i => (i.zero, i.size, i.bytes)) = some (some z, 1, bytes)) (hz : z.cells.size = 1) (hb0 : 0 < bytes)
    (v : Value) (xs : List Value) (hs : a.eval s = v) (sv : Value) (m : Nat) (F : Nat → Value) (hx : a.eval x = sv) (HR : RdV W sv m F) (h1 : ∀ j, j < m → (F j).oneCell' = true)
    (HO : W.ownsRow base e 1 v xs.length xs) (hbase : base ≤ W.heap.size) (hl : (xs.length + m) * bytes ≤ 140737488355328)
    (h : ∀ v1 w1, w1.ownsRow base e 1 v1 (xs.length + m) (xs ++ (List.range m).map F) → W.grownBy w1 v.ownBlock → wpList P ops Q rest (a.put o.dst v1) w1) :
    wpList P ops Q (o :: rest) a W := by
  obtain ⟨i0, hi, hzz⟩ := Option.map_eq_some_iff.1 hinfo
  simp only [Prod.mk.injEq] at hzz
  obtain ⟨hz0, hz1, hz2⟩ := hzz
  have hlen : xs.length + m ≤ 140737488355328 := Nat.le_trans (Nat.le_mul_of_pos_right _ hb0) hl
  obtain ⟨A, cap, rfl, _, _, hc⟩ := HR
  rcases A with _ | ad
  · have hm0 : m = 0 := by
      rcases Nat.eq_zero_or_pos m with h0 | h0
      · exact h0
      · obtain ⟨b, off, hA, _⟩ := hc h0
        cases hA
    subst hm0
    refine wpList_plain hgd fun K hK => ?_
    have hrun := run_append_nil_any (P := P) (w := W) base t o.type e i0 1 ht hi v xs.length cap xs HO
    unfold Oper.wp
    simp [execOp, ho, resolve, invoke, builtin, hs, hx, hrun, Result.andThen]
    exact hK _ _ (h v W (by simpa using HO) ⟨rfl, rfl, rfl, Nat.le_refl _, fun _ _ _ => rfl⟩)
  · refine wpList_append_own W hgd s x t ho base e i0 z 1 bytes ht hi hz0 hz1 hz2 hz (by omega) v xs.length xs hs HO ad m cap ((List.range m).map F) hx (by simp) (fun j u hj => ?_) (fun u hu => ?_) (by simp only [maxLen]; omega) hl hbase (fun v1 w1 h2 h3 _ => h v1 w1 h2 h3)
    · have hjm : j < m := by
        have := (List.getElem?_eq_some_iff.1 hj).1
        simpa using this
      obtain ⟨b, off, hA, hcs⟩ := hc (by omega)
      cases hA
      have hu : F j = u := by simpa [hjm] using hj
      have hadd : (⟨b, off, none⟩ : Addr).add j = ⟨b, off + j, none⟩ := by unfold Addr.add; split <;> simp_all
      rw [hadd, hcs j hjm, hu]
    · obtain ⟨j, hj, rfl⟩ := List.mem_map.1 hu
      exact h1 j (List.mem_range.1 hj)
end

/-- An owned row reads as a slice. -/
theorem rdV_of_own {w : World} {base : Nat} {e : TypeId} {v : Value} {n : Nat} {xs : List Value} (h : w.ownsRow base e 1 v n xs) (F : Nat → Value) (hF : ∀ j, j < n → xs[j]? = some (F j)) : RdV w v n F := by
  have hl : xs.length = n := by have := h.1; simpa using this
  have hx := h
  rcases h.2 with ⟨rfl, rfl⟩ | ⟨g, cap, cur, rfl, _, _, hnc, hcm, _⟩
  · exact ⟨none, 0, rfl, Nat.le_refl _, by unfold maxLen; omega, fun h => absurd h (by omega)⟩
  · refine ⟨_, cap, rfl, hnc, hcm, fun _ => ⟨g, 0, rfl, fun j hj => ?_⟩⟩
    have := hx.cells (g := g) rfl j (F j) (hF j hj)
    have hadd : (⟨g, 0, none⟩ : Addr).add j = ⟨g, 0 + j, none⟩ := by unfold Addr.add; split <;> simp_all
    rwa [hadd] at this

theorem own_slice {w : World} {base n : Nat} {e : TypeId} {size : Nat} {v : Value} {xs : List Value} (h : w.ownsRow base e size v n xs) : ∃ A c, v = .slice A n c := by
  rcases h.2 with ⟨rfl, rfl⟩ | ⟨g, cap, cur, rfl, _⟩
  · exact ⟨none, 0, rfl⟩
  · exact ⟨_, cap, rfl⟩

/-- A row is written from its base on: what lay below stays. -/
theorem below_own {w W w1 : World} {base : Nat} {e : TypeId} {size n : Nat} {v : Value} {xs : List Value} (hB : Below base w W) (HO : W.ownsRow base e size v n xs) (hg : W.grownBy w1 v.ownBlock) (hbase : base ≤ W.heap.size) : Below base w w1 :=
  hB.grown hg hbase (fun k hk => (HO.lt k hk).1)
/-- An append onto a row that lies beyond the heap's size as it was, or into a new one: what lay in the heap stays. -/
theorem own_below {w1 w2 : World} {base : Nat} {e : TypeId} {size n : Nat} {v : Value} {xs : List Value} (HO : w1.ownsRow base e size v n xs) (hb : Below w1.heap.size w1 w2) : w2.ownsRow base e size v n xs :=
  HO.kept (row := none) ⟨hb.os, hb.tape, hb.output, hb.size, fun i hi _ => hb.block i hi⟩ (by cases v.ownBlock <;> simp)
/-- Rows of different types are different rows. -/
theorem own_ne {w : World} {b b' : Nat} {e e' : TypeId} {s s' n n' : Nat} {v v' : Value} {xs xs' : List Value} (h : w.ownsRow b e s v n xs) (h' : w.ownsRow b' e' s' v' n' xs') (hne : e ≠ e') : v.ownBlock = none ∨ v.ownBlock ≠ v'.ownBlock := by
  rcases h.2 with ⟨rfl, _⟩ | ⟨g, cap, cur, rfl, _, hh, _⟩
  · exact .inl rfl
  · refine .inr fun hk => ?_
    rcases h'.2 with ⟨rfl, _⟩ | ⟨g', cap', cur', rfl, _, hh', _⟩
    · simp [Value.ownBlock] at hk
    · have : g = g' := by simpa [Value.ownBlock] using hk
      subst this
      rw [hh] at hh'
      injection hh' with hh'
      injection hh' with _ ht
      exact hne ht
theorem map_range_snoc {α : Type} (F : Nat → α) (x : α) (k : Nat) : (List.range k).map F ++ [x] = (List.range (k + 1)).map (fun j => if j = k then x else F j) := by
  rw [List.range_succ, List.map_append]
  congr 1
  · refine List.map_congr_left fun j hj => ?_
    have := List.mem_range.1 hj
    rw [if_neg (by omega)]
  · simp
theorem rd_of_own {w : World} {base : Nat} {e : TypeId} {k : IntKind} {v : Value} {n : Nat} {f : Nat → Nat} (h : w.ownsRow base e 1 v n ((List.range n).map fun j => .int k (f j))) : Rd w k v n f :=
  rdV_of_own h _ (fun j hj => by simp [hj])
/-- The string of n symbols. -/
def strF (f : Nat → Nat) (n : Nat) : ByteArray := strOfNums ((List.range n).map fun j => (f j : Int))
theorem run_conv_str {P : Program} {w : World} {v : Value} {n : Nat} {f : Nat → Nat} (h : Rd w .u8 v n f) (src e dst : TypeId) (hs : P.underlying src = some (.slice e)) (he : P.underlying e = some (.int .u8)) (hd : P.underlying dst = some .string) :
    (convert src dst v).run P w = .ok (.string (strF f n)) w := by
  obtain ⟨A, cap, rfl, _, _, hc⟩ := h
  rcases Nat.eq_zero_or_pos n with h0 | h0
  · subst h0
    rcases A with _ | ad
    · exact run_convert_bytes_nil w src e hs he 0 cap dst hd
    · have hl : (loadCells ad 0).run P w = .ok (([] : List Int).map (Value.int .u8)).toArray w :=
        run_loadCells_list (P := P) w ad [] (fun j v hj => by simp at hj)
      rw [run_convert_bytes_string w src dst e _ 0 cap hs he hd, run_bytesToString w _ 0 cap [] hl, foldl_push_bytes]
      simp [strF, strOfNums, ByteArray.empty, ByteArray.emptyWithCapacity]
      rfl
  · obtain ⟨b, off, rfl, hcs⟩ := hc h0
    refine run_convert_bytes_arg w src e hs he b off n cap _ (by simp) (fun i hi => ?_) dst hd
    rw [hcs i hi]
    simp [hi]
theorem strF_congr {f g : Nat → Nat} {n : Nat} (h : ∀ j, j < n → f j = g j) : strF f n = strF g n := by
  unfold strF
  congr 1
  exact List.map_congr_left fun j hj => by rw [h j (List.mem_range.1 hj)]

theorem Rd.toV {w : World} {k : IntKind} {v : Value} {n : Nat} {f : Nat → Nat} (h : Rd w k v n f) : RdV w v n (fun j => .int k (f j)) := h
theorem RdV.toRd {w : World} {k : IntKind} {v : Value} {n : Nat} {f : Nat → Nat} (h : RdV w v n (fun j => .int k (f j))) : Rd w k v n f := h

end Hd
end Go
