/-
  The laws' arguments: visits; one visit.
-/
import Derived.Test.YtchdoamoeccjkaaLift4
import Derived.Test.YtchdoamoeccjkaaVM7
import Derived.Test.YtchdoamoeccjkaaRows
namespace Go.Proofs.Ytchdoamoeccjkaa
open Go.RowKit Go.Shelf Go.Mine Go.Mine.V Go.ChangeShapes Go.WideShapes Go.ChangeAt
theorem Try.own : ownKnob Try.prog.godebug = none := by kernel_rfl
theorem Try.laidOut : laidOutB Try.prog = true := by kernel_rfl
noncomputable def fieldsOf (t : TypeId) : Array Field := match Try.prog.underlying t with | some (.struct fs) => fs | _ => #[]
def viOf (x : List Int) : Vi := ⟨x.getD 0 0, x.getD 1 0, x.getD 2 0, x.getD 3 0⟩
section
variable {Hh : Type} {enc : TypeId × Value → Hh} {w : World} {base b0 : Nat} {held : Bool} {r : Reach} {v : Value} {dd : DataW Hh} {ps : List MemPlace}
set_option maxRecDepth 100000 in
theorem open_visits (hv : Value.okWide Try.prog w r b0 22 v) (h : DataW.Trod enc Try.prog w base (fun _ => true) held 22 v dd ps) :
    ∃ (A : Option Addr) (c : Nat) (l : List Vi), v = .slice A l.length c ∧ Sl viC 4 w A c l ∧ (∀ x ∈ l, ViS x) := by
  have hs4 : (fieldsOf 40).size = 4 := by kernel_rfl
  obtain ⟨A, c, l, rfl, hSl, hok⟩ := open_sl (e := 40) (fs := fieldsOf 40) Try.underlying22 (by kernel_rfl) (by kernel_rfl) (by kernel_rfl) (by rw [hs4]; decide) (by kernel_rfl) hv h
  rw [hs4] at hSl hok
  have hrc : ∀ y ∈ l, viC (viOf y) = y.map (Value.int .i64) := fun y hy => by
    obtain ⟨h4, _⟩ := hok y hy
    match y, h4 with
    | [a, b, c, d], _ => rfl
  have hS2 : Sl viC 4 w A c (l.map viOf) := hSl.as viOf hrc
  refine ⟨A, c, l.map viOf, by simp, hS2, ?_⟩
  intro q hq
  obtain ⟨y, hy, rfl⟩ := List.mem_map.1 hq
  obtain ⟨h4, hb⟩ := hok y hy
  match y, h4, hb with
  | [a, b, c, d], _, hb => exact ⟨hb a (by simp), hb b (by simp), hb c (by simp), hb d (by simp)⟩
set_option maxRecDepth 100000 in
theorem open_visit (hv : Value.okWide Try.prog w r b0 40 v) (h : DataW.Trod enc Try.prog w base (fun _ => true) held 40 v dd ps) : ∃ x : Vi, v = viV x ∧ ViS x := by
  obtain ⟨cs, rfl, hl, hf⟩ := open_flat (fs := fieldsOf 40) (by kernel_rfl) (by kernel_rfl) (by kernel_rfl) hv h
  have hsz : (fieldsOf 40).size = 4 := by kernel_rfl
  obtain ⟨a, h0, w0⟩ := flat_int hf (j := 0) (f := (fieldsOf 40)[0]'(by rw [hsz]; decide)) (Array.getElem?_eq_getElem _) (t := 3) (by kernel_rfl) Try.underlying3
  obtain ⟨b, h1, w1⟩ := flat_int hf (j := 1) (f := (fieldsOf 40)[1]'(by rw [hsz]; decide)) (Array.getElem?_eq_getElem _) (t := 3) (by kernel_rfl) Try.underlying3
  obtain ⟨c, h2, w2⟩ := flat_int hf (j := 2) (f := (fieldsOf 40)[2]'(by rw [hsz]; decide)) (Array.getElem?_eq_getElem _) (t := 3) (by kernel_rfl) Try.underlying3
  obtain ⟨d, h3, w3⟩ := flat_int hf (j := 3) (f := (fieldsOf 40)[3]'(by rw [hsz]; decide)) (Array.getElem?_eq_getElem _) (t := 3) (by kernel_rfl) Try.underlying3
  refine ⟨⟨a, b, c, d⟩, ?_, w0, w1, w2, w3⟩
  rw [hsz] at hl
  match cs, hl with
  | [a0, a1, a2, a3], _ =>
    simp at h0 h1 h2 h3
    subst h0 h1 h2 h3
    rfl
end
end Go.Proofs.Ytchdoamoeccjkaa
