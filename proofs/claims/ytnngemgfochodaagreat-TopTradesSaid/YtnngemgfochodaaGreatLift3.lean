/-
  A struct argument whose fields have one cell each: ints and bools.
-/
import Derived.Test.YtnngemgfochodaaGreatLift2
import Derived.ChangeArms
namespace Go.Mine
open Go.RowKit Go.WideShapes Go.ChangeShapes Go.Deep Go.ChangeAt
section
variable {H : Type} {enc : TypeId × Value → H} {P : Program} {w : World} {base : Nat} {held : Bool}

theorem open_flat {b0 : Nat} {r : Reach} {t : TypeId} {fs : Array Field} {v : Value} {d : DataW H} {ps : List MemPlace} (he : P.underlying t = some (.struct fs)) (hone : oneCellFields P fs = true) (hC : P.cellsOf t = fs.size)
    (hv : Value.okWide P w r b0 t v) (h : DataW.Trod enc P w base (fun _ => true) held t v d ps) :
    ∃ cs : List Value, v = .agg cs.toArray ∧ cs.length = fs.size ∧ ∀ (j : Nat) (f : Field), fs[j]? = some f → ∃ n x u, cs[j]? = some u ∧ DataW.trod enc P w base (fun _ => true) held n f.type [u] = some x := by
  obtain ⟨a, rfl, ha⟩ := okWide_struct he hv
  obtain ⟨fuel, hf⟩ := h
  have hcs : (Value.agg a).cells = a := rfl
  rw [hcs] at hf
  obtain ⟨ys, n, rfl, _, hlen, hyl, hfd⟩ := DataW.trod_struct he hf
  refine ⟨a.toList, by simp, by simp [← hC, ha], fun j f hj => ?_⟩
  obtain ⟨ho, hk⟩ := hone_of hone j f hj
  have h1 := hfd j f hj
  rw [ho, hk] at h1
  have hjl : j < fs.size := (Array.getElem?_eq_some_iff.1 hj).1
  have hja : j < a.toList.length := by simp [ha, hC]; exact hjl
  have hys : ys[j]? = some (ys[j]'(by omega)) := List.getElem?_eq_getElem (by omega)
  have hone' : (a.toList.drop j).take 1 = [a.toList[j]] := by rw [List.drop_eq_getElem_cons hja]; rfl
  rw [hone'] at h1
  exact ⟨n, _, _, List.getElem?_eq_getElem hja, h1.trans hys⟩

/-- a field that is an int -/
theorem flat_int {cs : List Value} {fs : Array Field} {j : Nat} {f : Field} {t : TypeId} (h : ∀ (j : Nat) (f : Field), fs[j]? = some f → ∃ n x u, cs[j]? = some u ∧ DataW.trod enc P w base (fun _ => true) held n f.type [u] = some x)
    (hj : fs[j]? = some f) (hf : f.type = t) (ht : P.underlying t = some (.int .i64)) : ∃ n : Int, cs[j]? = some (.int .i64 n) ∧ -9223372036854775808 ≤ n ∧ n ≤ 9223372036854775807 := by
  obtain ⟨n, x, u, h1, h2⟩ := h j f hj
  rw [hf] at h2
  obtain ⟨z, hz, _, hw⟩ := DataW.trod_int ht h2
  obtain ⟨w1, w2⟩ := i64ok_of hw
  exact ⟨z, by rw [h1]; simpa using hz, w1, w2⟩
theorem flat_bool {cs : List Value} {fs : Array Field} {j : Nat} {f : Field} {t : TypeId} (h : ∀ (j : Nat) (f : Field), fs[j]? = some f → ∃ n x u, cs[j]? = some u ∧ DataW.trod enc P w base (fun _ => true) held n f.type [u] = some x)
    (hj : fs[j]? = some f) (hf : f.type = t) (ht : P.underlying t = some .bool) : ∃ b : Bool, cs[j]? = some (.bool b) := by
  obtain ⟨n, x, u, h1, h2⟩ := h j f hj
  rw [hf] at h2
  obtain ⟨z, hz, _⟩ := DataW.trod_bool ht h2
  exact ⟨z, by rw [h1]; simpa using hz⟩
end
end Go.Mine
