/-
  append by a law, in a fence.
-/
import Derived.Test.YtnngemgfochodaaGreatPush2
import Derived.OwnWalkIn
namespace Go.Mine
open Go.RowKit
theorem wpListIn_append {F : Fence} {n : Nat} {P : Program} {w : World} {ops : Array Oper} {rest : List Oper} {o : Oper} {a : Act} {Q : Exit → Act → World → Prop} (hg : o.guard = none) (s x : Operand) (t : TypeId)
    (hop : o.op = Op.call { callee := Callee.builtin Builtin.append, args := #[s, x], argTypes := #[t, t] }) {v u : Value} (hs : a.eval s = v) (hx : a.eval x = u) {G : Value → World → Prop}
    (hrun : ∃ v' w', (Builtin.append_ #[t, t] o.type #[v, u]).run P w = .ok v' w' ∧ G v' w') (hK : ∀ v' w', G v' w' → wpListIn F n P ops Q rest (a.put o.dst v') w') :
    wpListIn F n P ops Q (o :: rest) a w := by
  refine wpListIn_plain hg fun K hK' => ?_
  obtain ⟨v', w', hrun, hG⟩ := hrun
  unfold Oper.wpIn
  refine ⟨?_, ?_⟩
  · simp [Oper.about, hop, resolve, Target.leads, Sem.run_pure]
  · rw [Oper.semAt_plain F _ _ (by rw [hop]; intro c hc'; cases hc')]
    simp [execOp, hop, resolve, invoke, builtin, hs, hx, hrun, Result.andThen]
    exact hK' _ _ (hK v' w' hG)
/-- The call's own memory in a row that lies apart from what an iterator owns: the row is followed over a store elsewhere. -/
theorem OwnO.far {α : Type} {f : α → List Value} {sz : Nat} {e : TypeId} {O : Nat → Prop} {w : World} {base : Nat} {v : Value} {l : List α} (h : OwnO f sz e O w base v l) (p : Addr) (u : Value) (hp : p.block < base) : OwnO f sz e O (w.setCell p u) base v l :=
  ⟨h.own.keep (fun g hg => Below.heap_setCell _ _ _ _ (by have := (h.own.blk hg).1; omega)), h.no⟩
end Go.Mine
