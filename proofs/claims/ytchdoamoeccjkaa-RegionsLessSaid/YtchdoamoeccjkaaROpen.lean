/-
  The laws' arguments: a screen; a list of numbers.
-/
import Derived.Test.YtchdoamoeccjkaaLift4
import Derived.Test.YtchdoamoeccjkaaRSane
import Derived.Test.YtchdoamoeccjkaaRows
namespace Go.Proofs.Ytchdoamoeccjkaa
open Go.RowKit Go.Shelf Go.Mine Go.Mine.R Go.ChangeShapes Go.WideShapes Go.ChangeAt
theorem Try.own : ownKnob Try.prog.godebug = none := by kernel_rfl
theorem Try.laidOut : laidOutB Try.prog = true := by kernel_rfl
noncomputable def fieldsOf (t : TypeId) : Array Field := match Try.prog.underlying t with | some (.struct fs) => fs | _ => #[]
def rcOf (x : List Int) : Rc := ⟨x.getD 0 0, x.getD 1 0, x.getD 2 0, x.getD 3 0⟩
section
variable {Hh : Type} {enc : TypeId × Value → Hh} {w : World} {base b0 : Nat} {held : Bool} {r : Reach} {v : Value} {dd : DataW Hh} {ps : List MemPlace}
set_option maxRecDepth 100000 in
theorem open_scr (hv : Value.okWide Try.prog w r b0 45 v) (h : DataW.Trod enc Try.prog w base (fun _ => true) held 45 v dd ps) :
    ∃ (W H : Int) (A : Option Addr) (c : Nat) (bl : List Rc), v = scV W H A bl.length c ∧ Sl rcC 4 w A c bl ∧ (∀ r ∈ bl, I64R r) ∧ i64ok W ∧ i64ok H := by
  obtain ⟨cs, rfl, hl, hf⟩ := open_flat (fs := fieldsOf 45) (by kernel_rfl) (by kernel_rfl) (by kernel_rfl) hv h
  have hsz : (fieldsOf 45).size = 3 := by kernel_rfl
  obtain ⟨W, h0, w0⟩ := flat_int hf (j := 0) (f := (fieldsOf 45)[0]'(by rw [hsz]; decide)) (Array.getElem?_eq_getElem _) (t := 3) (by kernel_rfl) Try.underlying3
  obtain ⟨H, h1, w1⟩ := flat_int hf (j := 1) (f := (fieldsOf 45)[1]'(by rw [hsz]; decide)) (Array.getElem?_eq_getElem _) (t := 3) (by kernel_rfl) Try.underlying3
  obtain ⟨n, x, u, h2, ht⟩ := hf 2 ((fieldsOf 45)[2]'(by rw [hsz]; decide)) (Array.getElem?_eq_getElem _)
  have e43 : ((fieldsOf 45)[2]'(by rw [hsz]; decide)).type = 43 := by kernel_rfl
  rw [e43] at ht
  have hs4 : (fieldsOf 86).size = 4 := by kernel_rfl
  obtain ⟨A, c, l, hu, hSl, hok⟩ := open_slT (e := 86) (fs := fieldsOf 86) Try.underlying43 (by kernel_rfl) (by kernel_rfl) (by kernel_rfl) (by rw [hs4]; decide) (by kernel_rfl) ht
  rw [hs4] at hSl hok
  have hu' : u = .slice A l.length c := by simpa using hu
  subst hu'
  have hrc : ∀ y ∈ l, rcC (rcOf y) = y.map (Value.int .i64) := fun y hy => by
    obtain ⟨h4, _⟩ := hok y hy
    match y, h4 with
    | [a, b, c, d], _ => rfl
  have hS2 : Sl rcC 4 w A c (l.map rcOf) := hSl.as rcOf hrc
  refine ⟨W, H, A, c, l.map rcOf, ?_, hS2, ?_, w0, w1⟩
  · rw [hsz] at hl
    match cs, hl with
    | [a0, a1, a2], _ =>
      simp at h0 h1 h2
      subst h0 h1 h2
      simp [scV]
  · intro q hq
    obtain ⟨y, hy, rfl⟩ := List.mem_map.1 hq
    obtain ⟨h4, hb⟩ := hok y hy
    match y, h4, hb with
    | [a, b, c, d], _, hb => exact ⟨hb a (by simp), hb b (by simp), hb c (by simp), hb d (by simp)⟩
set_option maxRecDepth 100000 in
theorem open_nums (hv : Value.okWide Try.prog w r b0 33 v) (h : DataW.Trod enc Try.prog w base (fun _ => true) held 33 v dd ps) : ∃ (A : Option Addr) (c : Nat) (l : List Int), v = .slice A l.length c ∧ Sl ic 1 w A c l := by
  obtain ⟨A, c, ls, rfl, hR, _⟩ := open_is (e := 3) Try.underlying33 (by kernel_rfl) Try.underlying3 hv h
  exact ⟨A, c, ls, rfl, hR⟩
end
end Go.Proofs.Ytchdoamoeccjkaa
