/-
  A store of many cells onto a block of the same length, at once.
-/
import Derived.Test.YtchdoamoeccjkaaBlk
import Derived.Test.YtchdoamoeccjkaaMap
namespace Go.Mine
open Go.RowKit
/-- cells from i on replaced -/
def layCells (cs : Array Value) : List Value → Nat → Array Value
  | [], _ => cs
  | v :: r, i => layCells (cs.setIfInBounds i v) r (i + 1)
theorem layCells_size : ∀ (l : List Value) (cs : Array Value) (i : Nat), (layCells cs l i).size = cs.size
  | [], _, _ => rfl
  | v :: r, cs, i => by unfold layCells; rw [layCells_size r]; simp
theorem addr_add (b i : Nat) : (⟨b, 0, none⟩ : Addr).add i = ⟨b, i, none⟩ := by
  unfold Addr.add
  by_cases h : i = 0
  · subst h; simp
  · rw [if_neg h]; simp
/-- a store of many cells onto a block -/
theorem store_list {P : Program} {b : Nat} {ty : TypeId} : ∀ (l : List Value) (i : Nat) (w : World) (cs : Array Value), Blk w b ty cs → (∀ v ∈ l, v.oneCell' = true) → i + l.length ≤ cs.size →
    ∃ w', (storeCells ⟨b, 0, none⟩ l i).run P w = .ok () w' ∧ Blk w' b ty (layCells cs l i) ∧ ∀ n A, n ≤ b → Below n A w → Below n A w'
  | [], _, w, _, h, _, _ => ⟨w, rfl, h, fun _ _ _ k => k⟩
  | v :: r, i, w, cs, h, ho, hl => by
    simp only [List.length_cons] at hl
    have hi : i < cs.size := by omega
    obtain ⟨w', e, g, k⟩ := store_list (P := P) r (i + 1) (w.setCell ⟨b, i, none⟩ v) _ (h.set i v rfl) (fun x hx => ho x (by simp [hx])) (by simp; omega)
    refine ⟨w', ?_, g, fun n A hn hb => k n A hn (hb.setCell hn _)⟩
    unfold storeCells
    rw [addr_add]
    have e1 : (store ⟨b, i, none⟩ v).run P w = .ok () (w.setCell ⟨b, i, none⟩ v) := by
      rw [run_store P w _ v _ (ho v (by simp)), h.cell i (Array.getElem?_eq_getElem hi)]
      simp [h.thaw i]
    simp [e1, e, Result.andThen]
/-- a load of many cells of a block -/
theorem load_list {P : Program} {b : Nat} {ty : TypeId} {w : World} {cs : Array Value} (h : Blk w b ty cs) : ∀ (n i : Nat) (acc : Array Value), i + n ≤ cs.size →
    (loadCellsFrom ⟨b, 0, none⟩ i n acc).run P w = .ok (acc ++ cs.extract i (i + n)) w
  | 0, i, acc, _ => by unfold loadCellsFrom; simp; omega
  | n + 1, i, acc, hl => by
    have hi : i < cs.size := by omega
    have e := load_list (P := P) h n (i + 1) (acc.push (cs[i]'hi)) (by omega)
    unfold loadCellsFrom
    rw [addr_add]
    have e1 : (load ⟨b, i, none⟩).run P w = .ok cs[i] w := by
      rw [run_load, h.cell i (Array.getElem?_eq_getElem hi)]
    have e2 : acc.push cs[i] ++ cs.extract (i + 1) (i + 1 + n) = acc ++ cs.extract i (i + (n + 1)) := by
      apply Array.ext'
      simp [Array.toList_extract, List.extract]
      rw [List.drop_eq_getElem_cons (i := i) (by simpa using hi), List.take_succ_cons]
      simp
    simp [e1, e, e2, Result.andThen]
/-- the store of a whole array as an operation -/
theorem wpList_lay {P : Program} {w : World} {ops : Array Oper} {rest : List Oper} {o : Oper} {a : Act} {Q : Exit → Act → World → Prop}
    (hg : o.guard = none) (mo v : Operand) (t : TypeId) (hop : o.op = Op.store t mo v) {b : Nat} {ty : TypeId} {cs : Array Value} {l : List Value} (h : Blk w b ty cs)
    (hz : (sizeOf t).run P w = .ok cs.size w) (hl : l.length = cs.size) (ho : ∀ v ∈ l, v.oneCell' = true) (hm : a.eval mo = .pointer (some ⟨b, 0, none⟩)) (hv : a.eval v = .agg l.toArray)
    (hK2 : ∀ w', Blk w' b ty (layCells cs l 0) → (∀ n A, n ≤ b → Below n A w → Below n A w') → wpList P ops Q rest (a.put o.dst undef) w') :
    wpList P ops Q (o :: rest) a w := by
  refine wpList_plain hg fun K' hK' => ?_
  obtain ⟨w', hrun, r1, r2⟩ := store_list (P := P) l 0 w cs h ho (by omega)
  unfold Oper.wp
  simp [execOp, hop, Instr.storeAt, Instr.sureAddr, storeVar, Value.cells, hm, hv, hz, hl, hrun, Result.andThen]
  exact hK' _ _ (hK2 w' r1 r2)
end Go.Mine
