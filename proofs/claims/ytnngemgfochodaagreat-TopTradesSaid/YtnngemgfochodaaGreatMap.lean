/-
  A map with keys of the kind int, whatever its elements: what it holds, key by key.
-/
import Derived.Test.YtnngemgfochodaaGreatPush2
import Derived.Maps.OwnSet
import Derived.Maps.OwnOps
namespace Go.Mine
open Go.RowKit Go.Maps

/-- how an element reads: as itself -/
def anyElem (v : Value) : Option (DataW Value × List MemPlace) := some (.held v, [])
def kI (k : Int) : Lit := .int .i64 k
def MapI (P : Program) (K : TypeId) (w : World) (b n : Nat) (m : Int → Option Value) : Prop :=
  ∃ D : DataW Value, w.ownsMap P K anyElem b n D ∧ ∀ k : Int, Maps.has D (kI k) = (m k).isSome ∧ ∀ z, D.atKey (kI k) (.held z) = .held ((m k).getD z)
def upd (m : Int → Option Value) (k : Int) (v : Value) : Int → Option Value := fun j => if j = k then some v else m j
theorem upd_same (m : Int → Option Value) (k : Int) (v : Value) : upd m k v k = some v := by simp [upd]
theorem upd_other (m : Int → Option Value) {k j : Int} (v : Value) (h : j ≠ k) : upd m k v j = m j := by simp [upd, h]
def I64 (k : Int) : Prop := -9223372036854775808 ≤ k ∧ k ≤ 9223372036854775807
theorem I64.wf {k : Int} (h : I64 k) : (Lit.int .i64 k).wf = true := by
  obtain ⟨h1, h2⟩ := h
  simp only [Lit.wf, Bool.and_eq_true, decide_eq_true_eq]
  exact ⟨h1, h2⟩
section
variable {P : Program} {K e t : TypeId} {w w' : World} {b n : Nat} {m : Int → Option Value}
theorem MapI.made (w : World) (P : Program) (K : TypeId) : MapI P K (w.alloc (.map #[] 0)) w.heap.size 0 (fun _ => none) :=
  ⟨.map [], World.ownsMap_made w P K anyElem, fun _ => ⟨rfl, fun _ => rfl⟩⟩
theorem MapI.lt (h : MapI P K w b n m) : b < w.heap.size := by obtain ⟨D, h, _⟩ := h; exact h.lt
theorem MapI.mono (h : MapI P K w b n m) {n' : Nat} (hn : n ≤ n') : MapI P K w b n' m := by obtain ⟨D, h, g⟩ := h; exact ⟨D, h.mono hn, g⟩
theorem MapI.kept (h : MapI P K w b n m) {row : Option Nat} (hg : w.grownBy w' row) (hne : some b ≠ row) : MapI P K w' b n m := by obtain ⟨D, h, g⟩ := h; exact ⟨D, h.kept hg hne, g⟩
theorem MapI.bel (h : MapI P K w b n m) (hb : Below w.heap.size w w') : MapI P K w' b n m := h.kept (gb_below hb none) (by simp)
theorem MapI.alloc (h : MapI P K w b n m) (o : Obj) : MapI P K (w.alloc o) b n m := by obtain ⟨D, h, g⟩ := h; exact ⟨D, h.alloc o, g⟩
theorem MapI.drew (h : MapI P K w b n m) : MapI P K w.drew b n m := by obtain ⟨D, h, g⟩ := h; exact ⟨D, h.drew, g⟩
theorem MapI.setCell (h : MapI P K w b n m) {a : Addr} (ha : b ≠ a.block) (u : Value) : MapI P K (w.setCell a u) b n m := by obtain ⟨D, h, g⟩ := h; exact ⟨D, h.setCell ha u, g⟩
theorem MapI.heap (h : MapI P K w b n m) (e : w'.heap[b]? = w.heap[b]?) : MapI P K w' b n m := by obtain ⟨D, ⟨es, clock, hb, r⟩, g⟩ := h; exact ⟨D, ⟨es, clock, e.trans hb, r⟩, g⟩
theorem MapI.same (h : MapI P K w b n m) {m' : Int → Option Value} (hm : ∀ k, m k = m' k) : MapI P K w b n m' := by rwa [show m' = m from funext fun k => (hm k).symm]
/-- 'm[k]' -/
theorem MapI.look (h : MapI P K w b n m) (hK : P.underlying K = some (.int .i64)) (ht : P.underlying t = some (.map K e)) {z : Value} (hz : (zeroValue e).run P w = .ok z w) {k : Int} (hk : I64 k) :
    (Instr.lookup t (.map (some b)) (.int .i64 k) false).run P w = .ok ((m k).getD z) w := by
  obtain ⟨D, h, g⟩ := h
  obtain ⟨v, ps, hrun, hv⟩ := h.lookup (int_keyed hK) ht hz (zd := .held z) (zp := []) rfl (keyOf_int_mk hK hk.wf)
  have e := (g k).2 z
  unfold kI at e
  rw [e] at hv
  simp only [anyElem, Option.some.injEq, Prod.mk.injEq, DataW.held.injEq] at hv
  rw [hrun, hv.1]
/-- 'v, ok := m[k]' -/
theorem MapI.look_ok (h : MapI P K w b n m) (hK : P.underlying K = some (.int .i64)) (ht : P.underlying t = some (.map K e)) {z : Value} (hz : (zeroValue e).run P w = .ok z w) {k : Int} (hk : I64 k) :
    (Instr.lookup t (.map (some b)) (.int .i64 k) true).run P w = .ok (.tuple #[(m k).getD z, .bool (m k).isSome]) w := by
  obtain ⟨D, h, g⟩ := h
  obtain ⟨v, ps, hrun, hv⟩ := h.look_ok (int_keyed hK) ht hz (zd := .held z) (zp := []) rfl (keyOf_int_mk hK hk.wf)
  have e := (g k).2 z
  have e2 := (g k).1
  unfold kI at e e2
  rw [e] at hv
  simp only [anyElem, Option.some.injEq, Prod.mk.injEq, DataW.held.injEq] at hv
  rw [hrun, hv.1, e2]
/-- 'm[k] = v' -/
theorem MapI.put (h : MapI P K w b n m) (hK : P.underlying K = some (.int .i64)) (ht : P.underlying t = some (.map K e)) (hn : n < maxLen) {k : Int} (hk : I64 k) (v : Value) :
    ∃ w', (Instr.mapUpdate t (.map (some b)) (.int .i64 k) v).run P w = .ok () w' ∧ MapI P K w' b (n + 1) (upd m k v) ∧ w.grownBy w' (some b) := by
  obtain ⟨D, h, g⟩ := h
  obtain ⟨w', hrun, h', hg⟩ := h.update (int_keyed hK) ht hn (keyOf_int_mk hK hk.wf) (val := v) (d := .held v) (ps := []) rfl
  have hD : Maps.IsMap D := h.isMap
  have hkey : WideAt.IsKeyLit (kI k) := by simp [kI, WideAt.IsKeyLit]
  refine ⟨w', hrun, ⟨_, h', fun j => ?_⟩, hg⟩
  by_cases hj : j = k
  · subst hj
    rw [upd_same]
    exact ⟨Maps.has_put_same hD hkey _, fun z => Maps.atKey_put_same hD hkey _ _⟩
  · have hne : kI j ≠ kI k := by simp [kI, hj]
    rw [upd_other _ _ hj]
    exact ⟨(Maps.has_put_other hne _).trans (g j).1, fun z => (Maps.atKey_put_other hne _ _).trans ((g j).2 z)⟩
end
/-- 'm[k] = v' at the operation -/
theorem wpList_put {P : Program} {w : World} {ops : Array Oper} {rest : List Oper} {o : Oper} {a : Act} {Q : Exit → Act → World → Prop}
    (hg : o.guard = none) (mo x v : Operand) (t : TypeId) (hop : o.op = Op.mapUpdate t mo x v) {K e : TypeId} (hK : P.underlying K = some (.int .i64)) (ht : P.underlying t = some (.map K e))
    {b n : Nat} {m : Int → Option Value} (hm : a.eval mo = .map (some b)) (h : MapI P K w b n m) (hn : n < maxLen) {k : Int} {val : Value} (hx : a.eval x = .int .i64 k) (hk : I64 k) (hv : a.eval v = val)
    (hK2 : ∀ w', MapI P K w' b (n + 1) (upd m k val) → w.grownBy w' (some b) → wpList P ops Q rest (a.put o.dst undef) w') :
    wpList P ops Q (o :: rest) a w := by
  refine wpList_plain hg fun K' hK' => ?_
  obtain ⟨w', hrun, r1, r2⟩ := h.put hK ht hn hk val
  unfold Oper.wp
  simp [execOp, hop, hm, hx, hv, hrun, Result.andThen]
  exact hK' _ _ (hK2 w' r1 r2)
end Go.Mine
