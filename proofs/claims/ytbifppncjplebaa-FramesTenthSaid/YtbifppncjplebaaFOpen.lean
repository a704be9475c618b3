/-
  Rates and labels as a law's arguments.
-/
import Derived.Test.YtbifppncjplebaaLift3
import Derived.Test.YtbifppncjplebaaRows
namespace Go.Proofs.Ytbifppncjplebaa
open Go.RowKit Go.Mine Go.ChangeShapes Go.WideShapes Go.ChangeAt
theorem Try.own : ownKnob Try.prog.godebug = none := by kernel_rfl
theorem Try.laidOut : laidOutB Try.prog = true := by kernel_rfl
noncomputable def fieldsOf (t : TypeId) : Array Field := match Try.prog.underlying t with | some (.struct fs) => fs | _ => #[]
section
variable {H : Type} {enc : TypeId × Value → H} {w : World} {base b0 : Nat} {held : Bool} {r : Reach} {v : Value} {d : DataW H} {ps : List MemPlace}
theorem open_rate (hv : Value.okWide Try.prog w r b0 23 v) (h : DataW.Trod enc Try.prog w base (fun _ => true) held 23 v d ps) : ∃ (b : Int) (s d : Bool), v = .agg #[.int .i64 b, .bool s, .bool d] := by
  obtain ⟨cs, rfl, hl, hf⟩ := open_flat (fs := fieldsOf 23) (by kernel_rfl) (by kernel_rfl) (by kernel_rfl) hv h
  have hsz : (fieldsOf 23).size = 3 := by kernel_rfl
  obtain ⟨b, h0, _⟩ := flat_int hf (j := 0) (f := (fieldsOf 23)[0]'(by rw [hsz]; decide)) (Array.getElem?_eq_getElem _) (t := 3) (by kernel_rfl) Try.underlying3
  obtain ⟨s, h1⟩ := flat_bool hf (j := 1) (f := (fieldsOf 23)[1]'(by rw [hsz]; decide)) (Array.getElem?_eq_getElem _) (t := 4) (by kernel_rfl) Try.underlying4
  obtain ⟨d, h2⟩ := flat_bool hf (j := 2) (f := (fieldsOf 23)[2]'(by rw [hsz]; decide)) (Array.getElem?_eq_getElem _) (t := 4) (by kernel_rfl) Try.underlying4
  rw [hsz] at hl
  match cs, hl with
  | [a0, a1, a2], _ =>
    simp at h0 h1 h2
    subst h0 h1 h2
    exact ⟨b, s, d, rfl⟩
theorem open_label (hv : Value.okWide Try.prog w r b0 25 v) (h : DataW.Trod enc Try.prog w base (fun _ => true) held 25 v d ps) : ∃ (h m s f : Int), v = .agg #[.int .i64 h, .int .i64 m, .int .i64 s, .int .i64 f] := by
  obtain ⟨cs, rfl, hl, hf⟩ := open_flat (fs := fieldsOf 25) (by kernel_rfl) (by kernel_rfl) (by kernel_rfl) hv h
  have hsz : (fieldsOf 25).size = 4 := by kernel_rfl
  obtain ⟨a, h0, _⟩ := flat_int hf (j := 0) (f := (fieldsOf 25)[0]'(by rw [hsz]; decide)) (Array.getElem?_eq_getElem _) (t := 3) (by kernel_rfl) Try.underlying3
  obtain ⟨b, h1, _⟩ := flat_int hf (j := 1) (f := (fieldsOf 25)[1]'(by rw [hsz]; decide)) (Array.getElem?_eq_getElem _) (t := 3) (by kernel_rfl) Try.underlying3
  obtain ⟨c, h2, _⟩ := flat_int hf (j := 2) (f := (fieldsOf 25)[2]'(by rw [hsz]; decide)) (Array.getElem?_eq_getElem _) (t := 3) (by kernel_rfl) Try.underlying3
  obtain ⟨d, h3, _⟩ := flat_int hf (j := 3) (f := (fieldsOf 25)[3]'(by rw [hsz]; decide)) (Array.getElem?_eq_getElem _) (t := 3) (by kernel_rfl) Try.underlying3
  rw [hsz] at hl
  match cs, hl with
  | [a0, a1, a2, a3], _ =>
    simp at h0 h1 h2 h3
    subst h0 h1 h2 h3
    exact ⟨a, b, c, d, rfl⟩
end
theorem u16_of {n : Int} (h : (Lit.int .u16 n).wf = true) : 0 ≤ n ∧ n < 65536 := by
  simp only [Lit.wf, Bool.and_eq_true, decide_eq_true_eq] at h
  have h1 : (0 : Int) ≤ n := h.1
  have h2 : n ≤ 65535 := h.2
  omega
end Go.Proofs.Ytbifppncjplebaa
