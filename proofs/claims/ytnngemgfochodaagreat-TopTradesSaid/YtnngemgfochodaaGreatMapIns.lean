/-
  A literal map's entry, at the operation; the set of numbers as a map.
-/
import Derived.Test.YtnngemgfochodaaGreatMap
namespace Go.Mine
open Go.RowKit Go.Maps
theorem wpList_ins {P : Program} {w : World} {ops : Array Oper} {rest : List Oper} {o : Oper} {a : Act} {Q : Exit → Act → World → Prop}
    (hg : o.guard = none) (mo x v : Operand) (t : TypeId) (hop : o.op = Op.insert t mo x v) {K e : TypeId} (hK : P.underlying K = some (.int .i64)) (ht : P.underlying t = some (.map K e))
    {b n : Nat} {m : Int → Option Value} (hm : a.eval mo = .map (some b)) (h : MapI P K w b n m) (hn : n < maxLen) {k : Int} {val : Value} (hx : a.eval x = .int .i64 k) (hk : I64 k) (hv : a.eval v = val)
    (hK2 : ∀ w', MapI P K w' b (n + 1) (upd m k val) → w.grownBy w' (some b) → wpList P ops Q rest (a.put o.dst undef) w') :
    wpList P ops Q (o :: rest) a w := by
  refine wpList_plain hg fun K' hK' => ?_
  obtain ⟨w', hrun, r1, r2⟩ := h.put hK ht hn hk val
  unfold Oper.wp
  simp [execOp, hop, hm, hx, hv, hrun, Result.andThen]
  exact hK' _ _ (hK2 w' r1 r2)
def setM (s : List Int) : Int → Option Value := fun k => if k ∈ s then some (.bool true) else none
theorem setM_add (s : List Int) (x : Int) : upd (setM s) x (.bool true) = setM (s ++ [x]) := by
  funext j
  unfold upd setM
  by_cases h : j = x
  · subst h; simp
  · simp [h]
theorem setM_nil : setM [] = fun _ => none := by funext j; simp [setM]
theorem setM_some (s : List Int) (k : Int) : (setM s k).isSome = true ↔ k ∈ s := by unfold setM; split <;> simp_all
theorem setM_get (s : List Int) (k : Int) : (setM s k).getD (.bool false) = .bool (s.contains k) := by
  unfold setM
  by_cases h : k ∈ s
  · rw [if_pos h]; simp [h]
  · rw [if_neg h]; simp [h]
theorem map_apart {P : Program} {K : TypeId} {w : World} {b n : Nat} {m : Int → Option Value} (h : MapI P K w b n m) {p : Addr} {v : Value} (hc : w.cell? p = some v) : p.block ≠ b := by
  rintro rfl
  obtain ⟨D, ⟨es, clock, hb, _⟩, _⟩ := h
  simp [World.cell?, hb] at hc
theorem map_notcells {P : Program} {K : TypeId} {w : World} {b n : Nat} {m : Int → Option Value} (h : MapI P K w b n m) {p : Nat} {ty : TypeId} {cs : Array Value} (hp : Blk w p ty cs) : p ≠ b := by
  rintro rfl
  obtain ⟨D, ⟨es, clock, hb, _⟩, _⟩ := h
  rw [hp.at_] at hb; cases hb
end Go.Mine
