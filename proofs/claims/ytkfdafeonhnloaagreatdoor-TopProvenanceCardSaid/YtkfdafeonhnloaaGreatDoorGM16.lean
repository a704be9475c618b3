/-
  The chart in memory: derivations, what is found, the chart's box; goals as keys.
  chart: small functions (need, odd words, contains, times).
-/
import Derived.Test.YtkfdafeonhnloaaGreatDoorGM13
import Derived.Test.YtkfdafeonhnloaaGreatDoorGM14
import Derived.Test.YtkfdafeonhnloaaGreatDoorGM15
namespace Go.Mine.C
open Go.RowKit Go.Mine
structure TreeH where
 rule : Int
 item : Int
 from_ : Int
 until_ : Int
 kA : Option Addr
 kC : Nat
 kids : List TreeH
def treeC (h : TreeH) : List Value := [.int .i64 h.rule, .int .i64 h.item, .int .i64 h.from_, .int .i64 h.until_, .slice h.kA h.kids.length h.kC]
def treeV (h : TreeH) : Value := .agg #[.int .i64 h.rule, .int .i64 h.item, .int .i64 h.from_, .int .i64 h.until_, .slice h.kA h.kids.length h.kC]
def zeroT : TreeH := ⟨0, 0, 0, 0, none, 0, []⟩
structure RowT (X : Nat → Prop) (w : World) (A : Option Addr) (c : Nat) (kids : List TreeH) : Prop where
 sl : Sl treeC 5 w A c kids
 ty : ∀ a, A = some a → kids ≠ [] → ∃ cs fz, w.heap[a.block]? = some (.cells cs 52 fz)
 no : ∀ a, A = some a → kids ≠ [] → ¬ X a.block
inductive TreeR (X : Nat → Prop) (w : World) : TreeH → Tree → Prop where
 | leaf {i : Nat} {f u : Int} : TreeR X w ⟨-1, i, f, u, none, 0, []⟩ (.leaf i f u)
 | node {r : Nat} {f u : Int} {A : Option Addr} {c : Nat} {kids : List TreeH} {ks : List Tree} (hs : RowT X w A c kids) (hl : kids.length = ks.length)
   (hk : ∀ (j : Nat) (h : TreeH) (t : Tree), kids[j]? = some h → ks[j]? = some t → TreeR X w h t) : TreeR X w ⟨r, -1, f, u, A, c, kids⟩ (.node r f u ks)
structure KeepT (X : Nat → Prop) (w w' : World) : Prop where
 size : w.heap.size ≤ w'.heap.size
 keep : ∀ b cs fz, ¬ X b → w.heap[b]? = some (.cells cs 52 fz) → w'.heap[b]? = w.heap[b]?
theorem KeepT.refl (X : Nat → Prop) (w : World) : KeepT X w w := ⟨Nat.le_refl _, fun _ _ _ _ _ => rfl⟩
theorem KeepT.trans {X : Nat → Prop} {a b c : World} (h : KeepT X a b) (k : KeepT X b c) : KeepT X a c :=
 ⟨Nat.le_trans h.size k.size, fun x cs fz hx e => (k.keep x cs fz hx ((h.keep x cs fz hx e).trans e)).trans (h.keep x cs fz hx e)⟩
theorem KeepT.bel {X : Nat → Prop} {w w' : World} (h : Below w.heap.size w w') : KeepT X w w' :=
 ⟨h.size, fun b _ _ _ e => h.block b (Array.getElem?_eq_some_iff.1 e).1⟩
theorem KeepT.but {X O : Nat → Prop} {w w' : World} (h : KeptBut O w w') (ho : ∀ b, O b → X b ∨ ∀ cs fz, w.heap[b]? ≠ some (.cells cs 52 fz)) : KeepT X w w' :=
 ⟨h.size, fun b cs fz hx e => h.keep b (Array.getElem?_eq_some_iff.1 e).1 fun hb => by
  rcases ho b hb with h1 | h1
  ·exact hx h1
  ·exact h1 cs fz e⟩
theorem RowT.keep {X : Nat → Prop} {w w' : World} {A : Option Addr} {c : Nat} {kids : List TreeH} (h : RowT X w A c kids) (k : KeepT X w w') : RowT X w' A c kids :=
 ⟨h.sl.keep (fun a ha hn _ => by obtain ⟨cs, fz, e⟩ := h.ty a ha hn; exact k.keep _ cs fz (h.no a ha hn) e) k.size,
  fun a ha hn => by obtain ⟨cs, fz, e⟩ := h.ty a ha hn; exact ⟨cs, fz, (k.keep _ cs fz (h.no a ha hn) e).trans e⟩, h.no⟩
theorem RowT.lt {X : Nat → Prop} {w : World} {A : Option Addr} {c : Nat} {kids : List TreeH} (h : RowT X w A c kids) {a : Addr} (ha : A = some a) (hn : kids ≠ []) : a.block < w.heap.size := by
 obtain ⟨cs, fz, e⟩ := h.ty a ha hn
 exact (Array.getElem?_eq_some_iff.1 e).1
theorem RowT.more {X X' : Nat → Prop} {w : World} {A : Option Addr} {c : Nat} {kids : List TreeH} (h : RowT X w A c kids) (hx : ∀ b, X' b → X b ∨ w.heap.size ≤ b) : RowT X' w A c kids :=
 ⟨h.sl, h.ty, fun a ha hn hb => by
  rcases hx _ hb with h1 | h1
  ·exact h.no a ha hn h1
  ·have := h.lt ha hn; omega⟩
theorem TreeR.keep {X : Nat → Prop} {w w' : World} {h : TreeH} {t : Tree} (hr : TreeR X w h t) (k : KeepT X w w') : TreeR X w' h t := by
 induction hr with
 | leaf => exact .leaf
 | node hs hl _ ih => exact .node (hs.keep k) hl fun j h t h1 h2 => ih j h t h1 h2
theorem TreeR.more {X X' : Nat → Prop} {w : World} {h : TreeH} {t : Tree} (hr : TreeR X w h t) (hx : ∀ b, X' b → X b ∨ w.heap.size ≤ b) : TreeR X' w h t := by
 induction hr with
 | leaf => exact .leaf
 | node hs hl _ ih => exact .node (hs.more hx) hl fun j h t h1 h2 => ih j h t h1 h2
structure FoundR (X : Nat → Prop) (w : World) (x : Found) (h : TreeH) : Prop where
 yes : x.ok = true → ∃ t, x.tree = some t ∧ TreeR X w h t
 no : x.ok = false → h = zeroT
theorem FoundR.keep {X : Nat → Prop} {w w' : World} {x : Found} {h : TreeH} (hr : FoundR X w x h) (k : KeepT X w w') : FoundR X w' x h :=
 ⟨fun e => by obtain ⟨t, e1, e2⟩ := hr.yes e; exact ⟨t, e1, e2.keep k⟩, hr.no⟩
theorem FoundR.more {X X' : Nat → Prop} {w : World} {x : Found} {h : TreeH} (hr : FoundR X w x h) (hx : ∀ b, X' b → X b ∨ w.heap.size ≤ b) : FoundR X' w x h :=
 ⟨fun e => by obtain ⟨t, e1, e2⟩ := hr.yes e; exact ⟨t, e1, e2.more hx⟩, hr.no⟩
def foundV (x : Found) (h : TreeH) : Value := .agg #[.bool x.ok, .int .i64 x.cost, .int .i64 h.rule, .int .i64 h.item, .int .i64 h.from_, .int .i64 h.until_, .slice h.kA h.kids.length h.kC, .int .i64 x.many]
def foundA (x : Found) (h : TreeH) : Array Value := #[.bool x.ok, .int .i64 x.cost, .int .i64 h.rule, .int .i64 h.item, .int .i64 h.from_, .int .i64 h.until_, .slice h.kA h.kids.length h.kC, .int .i64 x.many]
abbrev Goal := Int × Int × Int
def goalV (k : Goal) : Value := .agg #[.int .i64 k.1, .int .i64 k.2.1, .int .i64 k.2.2]
def litG (k : Goal) : Lit := .string (keyBytes [.int .i64 k.1, .int .i64 k.2.1, .int .i64 k.2.2])
def okG (k : Goal) : Prop := I64 k.1 ∧ I64 k.2.1 ∧ I64 k.2.2
def chartA (g : GramH) (iA : Option Addr) (nI iC : Nat) (n : Int) (mk mw : Nat) : Array Value :=
 #[.string g.name, .slice g.cA g.cats.length g.cC, .string g.start, .int .i64 g.startNo, .slice g.eA g.entries.length g.eC, .slice g.rA g.rules.length g.rC, .slice iA nI iC, .int .i64 n, .map (some mk), .map (some mw)]
end Go.Mine.C
namespace Go.Proofs.YtkfdafeonhnloaaGreatDoor
open Go.RowKit Go.Shelf Go.Mine Go.Mine.C
theorem row103 : (103 : TypeId) < Tryz.prog.types.size := of_decide_eq_true (by kernel_rfl)
theorem wide103 : (match Tryz.prog.underlying 103 with | some (.array _ _) | some (.struct _) => true | _ => false) = true := by kernel_rfl
set_option maxRecDepth 100000 in
theorem law103 : WideMaps.KeyLaw Tryz.prog 103 := deep_law_laid laid8 (m := 3) (by omega) row103 (by kernel_rfl) wide103
theorem kt103 : Tryz.prog.keyType 103 = true := by kernel_rfl
theorem cells103 : Tryz.prog.cellsOf 103 = 3 := by kernel_rfl
theorem size103 : ∃ m, Tryz.prog.types.size = m + 2 := ⟨Tryz.prog.types.size - 2, by have : 2 ≤ Tryz.prog.types.size := Nat.le_trans (by decide) (Nat.le_of_lt row103); omega⟩
theorem keyOf103 {k : Goal} (hk : okG k) : keyOf Tryz.prog 103 (goalV k) = some (litG k) := by
 obtain ⟨n, s, u⟩ := k
 obtain ⟨h1, h2, h3⟩ := hk
 obtain ⟨m, hm⟩ := size103
 have hw1 := I64.wf h1
 have hw2 := I64.wf h2
 have hw3 := I64.wf h3
 have hf : (Tryz.prog.keyType 103 && Value.formed Tryz.prog 103 (Value.agg #[Value.int IntKind.i64 n, Value.int IntKind.i64 s, Value.int IntKind.i64 u])) = true := by simp [kt103, Value.formed, Tryz.underlying103, cells103]
 unfold keyOf
 simp only [Tryz.underlying103, goalV]
 refine (if_pos hf).trans ?_
 rw [hm]
 unfold Program.keyLits
 simp only [Tryz.underlying103, Value.cells]
 simp [cells103, Program.keyLits, cells3, Tryz.underlying3, hw1, hw2, hw3, litG]
theorem keyG : KeyG Tryz.prog 103 goalV litG okG :=
 ⟨Maps.Keyed.of_law law103, fun h => keyOf103 h, fun {a b} ha hb e => by
  have := law103.inj (keyOf103 ha) (e ▸ keyOf103 hb)
  obtain ⟨a1, a2, a3⟩ := a
  obtain ⟨b1, b2, b3⟩ := b
  simp only [goalV] at this
  injection this with this
  have h := congrArg Array.toList this
  simp only at h
  injection h with h1 h2
  injection h2 with h2 h3
  injection h3 with h3 _
  injection h1 with _ h1
  injection h2 with _ h2
  injection h3 with _ h3
  rw [h1, h2, h3]⟩
end Go.Proofs.YtkfdafeonhnloaaGreatDoor
namespace Go.Mine.C
open Go.RowKit Go.Mine
def inL (l : List Str) (s : Str) : Bool := l.any fun x => s.toList == x.toList
theorem idxGo_nat (s : Str) : ∀ (l : List Str) (k : Nat), decide (0 ≤ idxGo s l k) = inL l s
 | [], k => rfl
 | x :: l, k => by
  unfold idxGo inL
  rw [List.any_cons]
  cases h : (s.toList == x.toList)
  ·rw [if_neg (by decide)]
   have := idxGo_nat s l (k + 1)
   rw [show ((k : Int) + 1) = ((k + 1 : Nat) : Int) by omega, this]
   rfl
  ·rw [if_pos rfl]
   simp
theorem wrp64 (n : Int) : wrap64 n = wrp n := by unfold wrap64 wrp; rfl
end Go.Mine.C
namespace Go.Proofs.YtkfdafeonhnloaaGreatDoor
open Go.RowKit Go.Shelf Go.Mine Go.Mine.C
attribute [local go_sem] Oper.semAt_some
theorem need81 (er : Int) (w : World) : Calls Tryz.prog 81 #[.bool true, .int .i64 er] w fun e w' => e = .returned (.tuple #[]) ∧ w = w' := by
 go_enter Tryz.func81, Tryz.ntmps81
 go_wp2
 go_end0
 exact ⟨rfl, rfl⟩
theorem odd82 (s : ByteArray) (w : World) (hE : Env w) : Calls Tryz.prog 82 #[.string s] w fun e w' => e = .returned (.bool (!wordB s)) ∧ Below w.heap.size w w' := by
 have K := hide (word34 s w hE)
 generalize wordB s = r at *
 clear hE
 go_enter Tryz.func82, Tryz.ntmps82
 go_wp2_with fail
 refine K.out.mono ?_
 rintro e w1 ⟨rfl, hb⟩
 go_wp2
 go_ret
 exact ⟨rfl, hb⟩
theorem contains148 (A : Option Addr) (c : Nat) (l : List ByteArray) (s : ByteArray) (w : World) (hS : Sl sc 1 w A c l) : Calls Tryz.prog 148 #[.slice A l.length c, .string s] w fun e w' => e = .returned (.bool (inL l s)) ∧ w = w' := by
 have K := hide (index78 A c l s w hS)
 have H := hide (show decide (0 ≤ idxL l s) = inL l s from idxGo_nat s l 0)
 generalize inL l s = r at *
 generalize idxL l s = d at *
 clear hS
 go_enter Tryz.func148, Tryz.ntmps148
 go_wp2_with fail
 refine K.out.mono ?_
 rintro e w1 ⟨rfl, rfl⟩
 go_wp2
 go_ret
 exact ⟨ret_bool H.out, rfl⟩
theorem times111 (a b : Int) (w : World) : Calls Tryz.prog 111 #[.int .i64 a, .int .i64 b] w fun e w' => e = .returned (.int .i64 (timesM a b)) ∧ w = w' := by
 have H := hide (show timesM a b = if 0 < a ∧ (1099511627776 : Int).tdiv a < b then 1099511627777 else wrp (a * b) from rfl)
 have H2 := hide (wrp64 (a * b))
 generalize timesM a b = R at *
 by_cases h1 : 0 < a
 ·have g1 : decide ((0 : Int) < a) = true := decide_eq_true h1
  have g0 : (a == 0) = false := by simp; omega
  have g0' : ¬ a = 0 := by omega
  have h3 : 0 ≤ (1099511627776 : Int).tdiv a := Int.tdiv_nonneg (by decide) (by omega)
  have h4 : (1099511627776 : Int).tdiv a ≤ 1099511627776 := by
   rw [Int.tdiv_eq_ediv_of_nonneg (by decide)]
   exact Int.ediv_le_self _ (by decide)
  have h5 : wrap64 ((1099511627776 : Int).tdiv a) = (1099511627776 : Int).tdiv a := by unfold wrap64; omega
  by_cases h2 : (1099511627776 : Int).tdiv a < b
  ·replace H := hide (H.out.trans (if_pos ⟨h1, h2⟩))
   have g2 : decide (wrap64 ((1099511627776 : Int).tdiv a) < b) = true := by rw [h5]; exact decide_eq_true h2
   clear h1 h2 h3 h4 h5
   go_enter Tryz.func111, Tryz.ntmps111
   go_wp2
   go_ret
   exact ⟨ret_int H.out.symm, rfl⟩
  ·replace H := hide (H.out.trans (if_neg fun h => h2 h.2))
   have g2 : decide (wrap64 ((1099511627776 : Int).tdiv a) < b) = false := by rw [h5]; exact decide_eq_false h2
   clear h1 h2 h3 h4 h5
   go_enter Tryz.func111, Tryz.ntmps111
   go_wp2
   go_ret
   exact ⟨ret_int (H2.out.trans H.out.symm), rfl⟩
 ·replace H := hide (H.out.trans (if_neg fun h => h1 h.1))
  have g1 : decide ((0 : Int) < a) = false := decide_eq_false h1
  clear h1
  go_enter Tryz.func111, Tryz.ntmps111
  go_wp2
  go_ret
  exact ⟨ret_int (H2.out.trans H.out.symm), rfl⟩
end Go.Proofs.YtkfdafeonhnloaaGreatDoor
