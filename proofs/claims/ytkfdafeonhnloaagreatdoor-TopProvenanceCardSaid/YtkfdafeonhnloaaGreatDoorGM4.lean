/-
  What all walks of this seat start from.
  Grammars, terms, items, words as they lie in memory: lists of cells with headers; what reads so reads so later.
-/
import Derived.Test.YtkfdafeonhnloaaGreatDoorRows
import Derived.Test.YtkfdafeonhnloaaGreatDoorGM1
import Derived.BigQuiet
import Derived.Shelf.Abstract
import Derived.LoopIn
import Derived.LoopNIn
import Derived.TacticsInMore
namespace Go.Mine
open Go.RowKit
def sc (s : ByteArray) : List Value := [.string s]
theorem Sl.sc_at {w : World} {A : Option Addr} {c : Nat} {l : List ByteArray} (h : Sl sc 1 w A c l) {k : Nat} (hk : k < l.length) : ∃ (x : ByteArray) (b off : Nat), l[k]? = some x ∧ l.drop k = x :: l.drop (k + 1) ∧ A = some ⟨b, off, none⟩ ∧ b < w.heap.size ∧ w.cell? ⟨b, off + k, none⟩ = some (.string x) := by
 obtain ⟨x, b, off, hx, hd, rfl, hb, hc⟩ := h.at_ hk
 exact ⟨x, b, off, hx, hd, rfl, hb, by simpa using hc 0 _ rfl⟩
end Go.Mine
namespace Go.Mine.C
open Go.RowKit Go.Mine
structure EntH where
 text : Str
 cat : Str
 catNo : Int
 gA : Option Addr
 gC : Nat
 gives : List Str
 cost : Int
def entC (x : EntH) : List Value := [.string x.text, .string x.cat, .int .i64 x.catNo, .slice x.gA x.gives.length x.gC, .int .i64 x.cost]
def entV (x : EntH) : Value := .agg #[.string x.text, .string x.cat, .int .i64 x.catNo, .slice x.gA x.gives.length x.gC, .int .i64 x.cost]
def EntOk (w : World) (x : EntH) : Prop := Sl sc 1 w x.gA x.gC x.gives
def partC (x : PartM) : List Value := [.string x.cat, .int .i64 x.catNo, .string x.text]
def partV (x : PartM) : Value := .agg #[.string x.cat, .int .i64 x.catNo, .string x.text]
def giveC (x : GiveM) : List Value := [.int .i64 x.part, .string x.text]
structure RuleH where
 cat : Str
 catNo : Int
 pA : Option Addr
 pC : Nat
 parts : List PartM
 gA : Option Addr
 gC : Nat
 gives : List GiveM
 cost : Int
def RuleH.m (x : RuleH) : RuleM := ⟨x.cat, x.catNo, x.parts, x.gives, x.cost⟩
def ruleC (x : RuleH) : List Value := [.string x.cat, .int .i64 x.catNo, .slice x.pA x.parts.length x.pC, .slice x.gA x.gives.length x.gC, .int .i64 x.cost]
def ruleV (x : RuleH) : Value := .agg #[.string x.cat, .int .i64 x.catNo, .slice x.pA x.parts.length x.pC, .slice x.gA x.gives.length x.gC, .int .i64 x.cost]
structure RuleOkW (w : World) (x : RuleH) : Prop where
 parts : Sl partC 3 w x.pA x.pC x.parts
 gives : Sl giveC 2 w x.gA x.gC x.gives
structure TermH where
 no : Int
 at_ : Int
 known : Int
 lang : Int
 sA : Option Addr
 sC : Nat
 source : List Str
 tA : Option Addr
 tC : Nat
 target : List Str
 cat : Str
 gone : Bool
def termC (x : TermH) : List Value := [.int .i64 x.no, .int .i64 x.at_, .int .i64 x.known, .int .i64 x.lang, .slice x.sA x.source.length x.sC, .slice x.tA x.target.length x.tC, .string x.cat, .bool x.gone]
def termV (x : TermH) : Value := .agg #[.int .i64 x.no, .int .i64 x.at_, .int .i64 x.known, .int .i64 x.lang, .slice x.sA x.source.length x.sC, .slice x.tA x.target.length x.tC, .string x.cat, .bool x.gone]
structure TermOk (w : World) (x : TermH) : Prop where
 source : Sl sc 1 w x.sA x.sC x.source
 target : Sl sc 1 w x.tA x.tC x.target
structure ItemH where
 cat : Int
 from_ : Int
 until_ : Int
 cost : Int
 tA : Option Addr
 tC : Nat
 target : List Str
 term : Int
def ItemH.m (x : ItemH) : ItemM := ⟨x.cat, x.from_, x.until_, x.cost, x.target, x.term⟩
def itemC (x : ItemH) : List Value := [.int .i64 x.cat, .int .i64 x.from_, .int .i64 x.until_, .int .i64 x.cost, .slice x.tA x.target.length x.tC, .int .i64 x.term]
def itemV (x : ItemH) : Value := .agg #[.int .i64 x.cat, .int .i64 x.from_, .int .i64 x.until_, .int .i64 x.cost, .slice x.tA x.target.length x.tC, .int .i64 x.term]
def ItemOk (w : World) (x : ItemH) : Prop := Sl sc 1 w x.tA x.tC x.target
structure GramH where
 name : Str
 cA : Option Addr
 cC : Nat
 cats : List Str
 start : Str
 startNo : Int
 eA : Option Addr
 eC : Nat
 entries : List EntH
 rA : Option Addr
 rC : Nat
 rules : List RuleH
def gramV (g : GramH) : Value := .agg #[.string g.name, .slice g.cA g.cats.length g.cC, .string g.start, .int .i64 g.startNo, .slice g.eA g.entries.length g.eC, .slice g.rA g.rules.length g.rC]
def gramC (g : GramH) : List Value := [.string g.name, .slice g.cA g.cats.length g.cC, .string g.start, .int .i64 g.startNo, .slice g.eA g.entries.length g.eC, .slice g.rA g.rules.length g.rC]
structure GramOk (w : World) (g : GramH) : Prop where
 cats : Sl sc 1 w g.cA g.cC g.cats
 entries : Sl entC 5 w g.eA g.eC g.entries
 rules : Sl ruleC 5 w g.rA g.rC g.rules
 entry : ∀ x ∈ g.entries, EntOk w x
 rule : ∀ x ∈ g.rules, RuleOkW w x
structure TargH where
 text : Str
 dA : Option Addr
 dC : Nat
 deps : List Int
 term : Int
def TargH.m (x : TargH) : TargM := ⟨x.text, x.deps, x.term⟩
def targC (x : TargH) : List Value := [.string x.text, .slice x.dA x.deps.length x.dC, .int .i64 x.term]
def targV (x : TargH) : Value := .agg #[.string x.text, .slice x.dA x.deps.length x.dC, .int .i64 x.term]
def TargOk (w : World) (x : TargH) : Prop := Sl ic 1 w x.dA x.dC x.deps
section
variable {w w' : World} {A : Option Addr} {c : Nat}
theorem EntOk.bel {x : EntH} (h : EntOk w x) (hb : Below w.heap.size w w') : EntOk w' x := Sl.bel h hb
theorem ItemOk.bel {x : ItemH} (h : ItemOk w x) (hb : Below w.heap.size w w') : ItemOk w' x := Sl.bel h hb
theorem TargOk.bel {x : TargH} (h : TargOk w x) (hb : Below w.heap.size w w') : TargOk w' x := Sl.bel h hb
theorem RuleOkW.bel {x : RuleH} (h : RuleOkW w x) (hb : Below w.heap.size w w') : RuleOkW w' x := ⟨h.parts.bel hb, h.gives.bel hb⟩
theorem TermOk.bel {x : TermH} (h : TermOk w x) (hb : Below w.heap.size w w') : TermOk w' x := ⟨h.source.bel hb, h.target.bel hb⟩
theorem GramOk.bel {g : GramH} (h : GramOk w g) (hb : Below w.heap.size w w') : GramOk w' g :=
 ⟨h.cats.bel hb, h.entries.bel hb, h.rules.bel hb, fun x hx => (h.entry x hx).bel hb, fun x hx => (h.rule x hx).bel hb⟩
theorem ent_at {l : List EntH} (h : Sl entC 5 w A c l) {k : Nat} (hk : k < l.length) : ∃ (x : EntH) (b off : Nat), l[k]? = some x ∧ l.drop k = x :: l.drop (k + 1) ∧ A = some ⟨b, off, none⟩ ∧ b < w.heap.size ∧
  w.cell? ⟨b, off + k * 5, none⟩ = some (.string x.text) ∧ w.cell? ⟨b, off + k * 5 + 1, none⟩ = some (.string x.cat) ∧ w.cell? ⟨b, off + k * 5 + 2, none⟩ = some (.int .i64 x.catNo) ∧ w.cell? ⟨b, off + k * 5 + 3, none⟩ = some (.slice x.gA x.gives.length x.gC) ∧ w.cell? ⟨b, off + k * 5 + 4, none⟩ = some (.int .i64 x.cost) := by
 obtain ⟨x, b, off, hx, hd, e, hb, hc⟩ := h.at_ hk
 exact ⟨x, b, off, hx, hd, e, hb, by simpa using hc 0 _ rfl, hc 1 _ rfl, hc 2 _ rfl, hc 3 _ rfl, hc 4 _ rfl⟩
theorem part_at {l : List PartM} (h : Sl partC 3 w A c l) {k : Nat} (hk : k < l.length) : ∃ (x : PartM) (b off : Nat), l[k]? = some x ∧ l.drop k = x :: l.drop (k + 1) ∧ A = some ⟨b, off, none⟩ ∧ b < w.heap.size ∧
  w.cell? ⟨b, off + k * 3, none⟩ = some (.string x.cat) ∧ w.cell? ⟨b, off + k * 3 + 1, none⟩ = some (.int .i64 x.catNo) ∧ w.cell? ⟨b, off + k * 3 + 2, none⟩ = some (.string x.text) := by
 obtain ⟨x, b, off, hx, hd, e, hb, hc⟩ := h.at_ hk
 exact ⟨x, b, off, hx, hd, e, hb, by simpa using hc 0 _ rfl, hc 1 _ rfl, hc 2 _ rfl⟩
theorem give_at {l : List GiveM} (h : Sl giveC 2 w A c l) {k : Nat} (hk : k < l.length) : ∃ (x : GiveM) (b off : Nat), l[k]? = some x ∧ l.drop k = x :: l.drop (k + 1) ∧ A = some ⟨b, off, none⟩ ∧ b < w.heap.size ∧
  w.cell? ⟨b, off + k * 2, none⟩ = some (.int .i64 x.part) ∧ w.cell? ⟨b, off + k * 2 + 1, none⟩ = some (.string x.text) := by
 obtain ⟨x, b, off, hx, hd, e, hb, hc⟩ := h.at_ hk
 exact ⟨x, b, off, hx, hd, e, hb, by simpa using hc 0 _ rfl, hc 1 _ rfl⟩
theorem rule_at {l : List RuleH} (h : Sl ruleC 5 w A c l) {k : Nat} (hk : k < l.length) : ∃ (x : RuleH) (b off : Nat), l[k]? = some x ∧ l.drop k = x :: l.drop (k + 1) ∧ A = some ⟨b, off, none⟩ ∧ b < w.heap.size ∧
  w.cell? ⟨b, off + k * 5, none⟩ = some (.string x.cat) ∧ w.cell? ⟨b, off + k * 5 + 1, none⟩ = some (.int .i64 x.catNo) ∧ w.cell? ⟨b, off + k * 5 + 2, none⟩ = some (.slice x.pA x.parts.length x.pC) ∧ w.cell? ⟨b, off + k * 5 + 3, none⟩ = some (.slice x.gA x.gives.length x.gC) ∧ w.cell? ⟨b, off + k * 5 + 4, none⟩ = some (.int .i64 x.cost) := by
 obtain ⟨x, b, off, hx, hd, e, hb, hc⟩ := h.at_ hk
 exact ⟨x, b, off, hx, hd, e, hb, by simpa using hc 0 _ rfl, hc 1 _ rfl, hc 2 _ rfl, hc 3 _ rfl, hc 4 _ rfl⟩
theorem term_at {l : List TermH} (h : Sl termC 8 w A c l) {k : Nat} (hk : k < l.length) : ∃ (x : TermH) (b off : Nat), l[k]? = some x ∧ l.drop k = x :: l.drop (k + 1) ∧ A = some ⟨b, off, none⟩ ∧ b < w.heap.size ∧
  w.cell? ⟨b, off + k * 8, none⟩ = some (.int .i64 x.no) ∧ w.cell? ⟨b, off + k * 8 + 1, none⟩ = some (.int .i64 x.at_) ∧ w.cell? ⟨b, off + k * 8 + 2, none⟩ = some (.int .i64 x.known) ∧ w.cell? ⟨b, off + k * 8 + 3, none⟩ = some (.int .i64 x.lang) ∧ w.cell? ⟨b, off + k * 8 + 4, none⟩ = some (.slice x.sA x.source.length x.sC) ∧ w.cell? ⟨b, off + k * 8 + 5, none⟩ = some (.slice x.tA x.target.length x.tC) ∧ w.cell? ⟨b, off + k * 8 + 6, none⟩ = some (.string x.cat) ∧ w.cell? ⟨b, off + k * 8 + 7, none⟩ = some (.bool x.gone) := by
 obtain ⟨x, b, off, hx, hd, e, hb, hc⟩ := h.at_ hk
 exact ⟨x, b, off, hx, hd, e, hb, by simpa using hc 0 _ rfl, hc 1 _ rfl, hc 2 _ rfl, hc 3 _ rfl, hc 4 _ rfl, hc 5 _ rfl, hc 6 _ rfl, hc 7 _ rfl⟩
theorem item_at {l : List ItemH} (h : Sl itemC 6 w A c l) {k : Nat} (hk : k < l.length) : ∃ (x : ItemH) (b off : Nat), l[k]? = some x ∧ l.drop k = x :: l.drop (k + 1) ∧ A = some ⟨b, off, none⟩ ∧ b < w.heap.size ∧
  w.cell? ⟨b, off + k * 6, none⟩ = some (.int .i64 x.cat) ∧ w.cell? ⟨b, off + k * 6 + 1, none⟩ = some (.int .i64 x.from_) ∧ w.cell? ⟨b, off + k * 6 + 2, none⟩ = some (.int .i64 x.until_) ∧ w.cell? ⟨b, off + k * 6 + 3, none⟩ = some (.int .i64 x.cost) ∧ w.cell? ⟨b, off + k * 6 + 4, none⟩ = some (.slice x.tA x.target.length x.tC) ∧ w.cell? ⟨b, off + k * 6 + 5, none⟩ = some (.int .i64 x.term) := by
 obtain ⟨x, b, off, hx, hd, e, hb, hc⟩ := h.at_ hk
 exact ⟨x, b, off, hx, hd, e, hb, by simpa using hc 0 _ rfl, hc 1 _ rfl, hc 2 _ rfl, hc 3 _ rfl, hc 4 _ rfl, hc 5 _ rfl⟩
theorem targ_at {l : List TargH} (h : Sl targC 3 w A c l) {k : Nat} (hk : k < l.length) : ∃ (x : TargH) (b off : Nat), l[k]? = some x ∧ l.drop k = x :: l.drop (k + 1) ∧ A = some ⟨b, off, none⟩ ∧ b < w.heap.size ∧
  w.cell? ⟨b, off + k * 3, none⟩ = some (.string x.text) ∧ w.cell? ⟨b, off + k * 3 + 1, none⟩ = some (.slice x.dA x.deps.length x.dC) ∧ w.cell? ⟨b, off + k * 3 + 2, none⟩ = some (.int .i64 x.term) := by
 obtain ⟨x, b, off, hx, hd, e, hb, hc⟩ := h.at_ hk
 exact ⟨x, b, off, hx, hd, e, hb, by simpa using hc 0 _ rfl, hc 1 _ rfl, hc 2 _ rfl⟩
end
end Go.Mine.C
