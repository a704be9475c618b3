/-
  'm[k] = v' at a step of a region that draws.
-/
import Derived.Test.YtbkokljelopcnaaMapIns
import Derived.Deep.RegionLaw
namespace Go.Mine
open Go.RowKit Go.Maps
theorem step_put {P : Program} {w : World} {ops : Array Oper} {o : Oper} {a : Act} {K : Act → World → Prop} {Q : Exit → Act → World → Prop} {E : Prop} (hg : o.guard = none) (mo x v : Operand) (t : TypeId)
    (hop : o.op = Op.mapUpdate t mo x v) {Kt e : TypeId} (hK : P.underlying Kt = some (.int .i64)) (ht : P.underlying t = some (.map Kt e))
    {b n : Nat} {m : Int → Option Value} (hm : a.eval mo = .map (some b)) (h : MapI P Kt w b n m) (hn : n < maxLen) {k : Int} {val : Value} (hx : a.eval x = .int .i64 k) (hk : I64 k) (hv : a.eval v = val)
    (hK2 : ∀ w', MapI P Kt w' b (n + 1) (upd m k val) → w.grownBy w' (some b) → K (a.put o.dst undef) w') :
    if Region.wanted o (yielded ops a.tmps) = true then Oper.wp P o a w K Q else E := by
  have hw : Region.wanted o (yielded ops a.tmps) = true := by simp [Region.wanted, hg]
  rw [if_pos hw]
  obtain ⟨w', hrun, r1, r2⟩ := h.put hK ht hn hk val
  unfold Oper.wp
  simp [execOp, hop, hm, hx, hv, hrun, Result.andThen]
  exact hK2 w' r1 r2
end Go.Mine
