/-
  delete and len of a map whose keys are numbers.
-/
import Derived.Test.YtbkokljelopcnaaMap
import Derived.Maps.Range
import Derived.Sort.KeysCollected
namespace Go.Mine
open Go.RowKit Go.Maps
def del (m : Int → Option Value) (k : Int) : Int → Option Value := fun j => if j = k then none else m j
section
variable {P : Program} {K e t : TypeId} {w w' : World} {b n : Nat} {m : Int → Option Value}
/-- 'delete(m, k)' -/
theorem MapI.drop (h : MapI P K w b n m) (hK : P.underlying K = some (.int .i64)) (ht : P.underlying t = some (.map K e)) {k : Int} (hk : I64 k) (ty : TypeId) :
    ∃ w', (Builtin.delete_ #[t, K] ty #[.map (some b), .int .i64 k]).run P w = .ok (.tuple #[]) w' ∧ MapI P K w' b n (del m k) ∧ w.grownBy w' (some b) := by
  obtain ⟨D, h, g⟩ := h
  obtain ⟨w', hrun, h', ht'⟩ := h.drop (int_keyed hK) ht (keyOf_int_mk hK hk.wf) ty
  refine ⟨w', hrun, ⟨_, h', fun j => ?_⟩, ht'.grown⟩
  by_cases hj : j = k
  · subst hj
    rw [show del m j j = none by simp [del]]
    exact ⟨Maps.has_del_same, fun z => Maps.atKey_del_same _⟩
  · have hne : kI j ≠ kI k := by simp [kI, hj]
    rw [show del m k j = m j by simp [del, hj]]
    exact ⟨(Maps.has_del_other hne).trans (g j).1, fun z => (Maps.atKey_del_other hne _).trans ((g j).2 z)⟩
/-- 'len(m)' of a map that holds nothing -/
theorem MapI.len_none (h : MapI P K w b n m) (hK : P.underlying K = some (.int .i64)) (ht : P.underlying t = some (.map K e)) (hm : ∀ k, m k = none) (ty : TypeId) :
    (Builtin.len_ #[t] ty #[.map (some b)]).run P w = .ok (.int .i64 0) w := by
  obtain ⟨D, h, g⟩ := h
  rw [h.len ht ty]
  obtain ⟨es, rfl, _, _⟩ := h.entries (int_keyed hK)
  obtain ⟨es', hD', hko⟩ := h.keysOf
  obtain rfl : es = es' := by simpa using hD'
  have : es = [] := by
    refine List.eq_nil_iff_forall_not_mem.2 fun p hp => ?_
    obtain ⟨v, hv⟩ := hko p hp
    obtain ⟨x, _, hx, _⟩ := Maps.keyOf_int_inv hK hv
    have h1 := (g x).1
    rw [hm x, Maps.has_eq] at h1
    have : (es.any fun q => q.1.sameKey (kI x)) = true := List.any_eq_true.2 ⟨p, hp, by rw [hx]; simp [kI, Lit.sameKey]⟩
    rw [this] at h1; cases h1
  rw [this]; rfl
end
/-- at the operations -/
theorem wpList_del {P : Program} {w : World} {ops : Array Oper} {rest : List Oper} {o : Oper} {a : Act} {Q : Exit → Act → World → Prop} {K e : TypeId}
    (hg : o.guard = none) (mo x : Operand) (t : TypeId) (hop : o.op = Op.call { callee := Callee.builtin Builtin.delete, args := #[mo, x], argTypes := #[t, K] }) (hK : P.underlying K = some (.int .i64)) (ht : P.underlying t = some (.map K e))
    {b n : Nat} {m : Int → Option Value} (hm : a.eval mo = .map (some b)) (h : MapI P K w b n m) {k : Int} (hx : a.eval x = .int .i64 k) (hk : I64 k)
    (hK2 : ∀ w', MapI P K w' b n (del m k) → w.grownBy w' (some b) → wpList P ops Q rest (a.put o.dst (.tuple #[])) w') :
    wpList P ops Q (o :: rest) a w := by
  refine wpList_plain hg fun K' hK' => ?_
  obtain ⟨w', hrun, r1, r2⟩ := h.drop hK ht hk o.type
  unfold Oper.wp
  simp [execOp, hop, resolve, invoke, builtin, hm, hx, hrun, Result.andThen]
  exact hK' _ _ (hK2 w' r1 r2)
theorem wpList_len0 {P : Program} {w : World} {ops : Array Oper} {rest : List Oper} {o : Oper} {a : Act} {Q : Exit → Act → World → Prop} {K e : TypeId}
    (hg : o.guard = none) (mo : Operand) (t : TypeId) (hop : o.op = Op.call { callee := Callee.builtin Builtin.len, args := #[mo], argTypes := #[t] }) (hK : P.underlying K = some (.int .i64)) (ht : P.underlying t = some (.map K e))
    {b n : Nat} {m : Int → Option Value} (hm : a.eval mo = .map (some b)) (h : MapI P K w b n m) (h0 : ∀ k, m k = none)
    (hK2 : wpList P ops Q rest (a.put o.dst (.int .i64 0)) w) :
    wpList P ops Q (o :: rest) a w := by
  refine wpList_plain hg fun K' hK' => ?_
  unfold Oper.wp
  simp [execOp, hop, resolve, invoke, builtin, hm, h.len_none hK ht h0 o.type, Result.andThen]
  exact hK' _ _ hK2
end Go.Mine
