/-
  TopTrades: whatever the input.
-/
import Derived.Test.YtnngemgfochodaaGreatXBad
import Derived.Test.YtnngemgfochodaaGreatXGood
namespace Go.Proofs.YtnngemgfochodaaGreat
open Go.RowKit Go.Shelf Go.Mine Go.Mine.B Go.Mine.X
theorem topTrades_law (A : Option Addr) (c : Nat) (b : List Bu) (B : Option Addr) (d : Nat) (l : List Tr) (st : Nat) (at_ known : Int) (C : Option Addr) (f : Nat) (ds : List Int) (D : Option Addr) (g : Nat) (ns : List Int) (w : World) (hS : Sl buC 5 w A c b) (hT : Sl trC 7 w B d l) (hC : Sl ic 1 w C f ds) (hD : Sl ic 1 w D g ns) (hst : st < 256) :
    Calls Tryz.prog 3 #[.slice A b.length c, .slice B l.length d, .int .u8 st, .int .i64 at_, .int .i64 known, .slice C ds.length f, .slice D ns.length g] w fun e w' => e = .returned (.bool true) ∧ Below w.heap.size w w' := by
  by_cases h : 0 < b.length ∧ b.length ≤ 6 ∧ l.length ≤ 20 ∧ chk 400 b l = 0 ∧ 0 ≤ at_ ∧ at_ < 549755813888 ∧ 0 ≤ known ∧ known < 1099511627776 ∧ ds.length = b.length ∧ ns.length = b.length
  · obtain ⟨h0, h1, h2, h3, h4, h5, h6, h7, h8, h9⟩ := h
    rw [h8, h9]
    exact top_good A c b B d l st at_ known C f ds D g ns w hS hT hC hD hst h0 h1 h2 h3 ⟨h4, h5⟩ ⟨h6, h7⟩ h8 h9
  · exact top_bad A c b B d l st at_ known C f ds.length D g ns.length w hS hT hst (goodB_all b l at_ known ds.length ns.length) h
section
open Go.ChangeShapes Go.WideShapes Go.ChangeAt
variable {Hh : Type} {enc : TypeId × Value → Hh} {w : World} {base b0 : Nat} {held : Bool} {r : Reach} {v : Value} {dd : DataW Hh} {ps : List MemPlace}
set_option maxRecDepth 100000 in
theorem ic_el (cs : List Value) (n : Nat) (x : DataW Hh × List MemPlace) (hl : cs.length = 1) (h : DataW.trod enc Tryz.prog w base (fun _ => true) held n 3 cs = some x) : ∃ y, cs = ic y ∧ I64 y := by
  match cs, hl with
  | [c0], _ =>
    obtain ⟨n0, rfl, g0⟩ := int_of h
    exact ⟨n0, rfl, g0⟩
set_option maxRecDepth 100000 in
theorem open_ics (hv : Value.okWide Tryz.prog w r b0 24 v) (h : DataW.Trod enc Tryz.prog w base (fun _ => true) held 24 v dd ps) :
    ∃ (A : Option Addr) (c : Nat) (l : List Int), v = .slice A l.length c ∧ Sl ic 1 w A c l ∧ (∀ x ∈ l, I64 x) :=
  open_slG (Q := I64) Tryz.underlying24 (by kernel_rfl) (by decide) (fun _ => rfl) ic_el hv h
end
end Go.Proofs.YtnngemgfochodaaGreat
