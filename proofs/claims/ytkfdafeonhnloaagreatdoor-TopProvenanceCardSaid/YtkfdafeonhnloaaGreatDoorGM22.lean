/-
  tags: the makers of the iterators, and the closures of Items.
  tags: the third closure of Items: the unknown word, where nothing was found.
  tags.Items, plainly.
  tags: what each closure of Items adds.
  tags.Items: what is refused before any item is made.
  tags.Items: a place's six closures, and what each adds.
-/
import Derived.Test.YtkfdafeonhnloaaGreatDoorGM21
import Derived.Test.YtkfdafeonhnloaaGreatDoorA8
import Derived.Test.YtkfdafeonhnloaaGreatDoorA27
import Derived.Test.YtkfdafeonhnloaaGreatDoorGM17
namespace Go.Mine.C
open Go.RowKit Go.Mine
structure IterAt (g : GramH) (mb : Nat) (wA : Option Addr) (wC nw i : Nat) (pi pt : Nat) (lo : Nat) (w : World) : Prop where
 pi_ : Blk w pi 3 #[.int .i64 i]
 pt_ : Blk w pt 83 (tagCs g mb wA wC nw)
 hpi : lo ≤ pi
 hpt : lo ≤ pt
def TermAt (g : GramH) (mb : Nat) (wA : Option Addr) (wC nw i many : Nat) (e : Ending) (lo : Nat) (w : World) : Prop :=
 ∃ pi pm pt, e = .returned (.func (.func 77) #[] #[.pointer (some ⟨pi, 0, none⟩), .pointer (some ⟨pm, 0, none⟩), .pointer (some ⟨pt, 0, none⟩)]) ∧ IterAt g mb wA wC nw i pi pt lo w ∧ Blk w pm 3 #[.int .i64 many] ∧ lo ≤ pm
def EntAt (g : GramH) (mb : Nat) (wA : Option Addr) (wC nw i : Nat) (e : Ending) (lo : Nat) (w : World) : Prop :=
 ∃ pi pt, e = .returned (.func (.func 79) #[] #[.pointer (some ⟨pt, 0, none⟩), .pointer (some ⟨pi, 0, none⟩)]) ∧ IterAt g mb wA wC nw i pi pt lo w
def UnkAt (g : GramH) (mb : Nat) (wA : Option Addr) (wC nw i : Nat) (e : Ending) (lo : Nat) (w : World) : Prop :=
 ∃ pi pt, e = .returned (.func (.func 80) #[] #[.pointer (some ⟨pt, 0, none⟩), .pointer (some ⟨pi, 0, none⟩)]) ∧ IterAt g mb wA wC nw i pi pt lo w
end Go.Mine.C
namespace Go.Proofs.YtkfdafeonhnloaaGreatDoor
open Go.RowKit Go.Shelf Go.Mine Go.Mine.C
attribute [local go_sem] Oper.semAt_some
theorem term36 (g : GramH) (mb : Nat) (wA : Option Addr) (wC nw i : Nat) (many : Nat) (w : World) : Calls Tryz.prog 36 #[.agg (tagCs g mb wA wC nw), .int .i64 i, .int .i64 many] w fun e w' => TermAt g mb wA wC nw i many e w.heap.size w' ∧ Below w.heap.size w w' := by
 have hb := hide (kalloc (kalloc (kalloc (Below.refl w.heap.size w) (.cells #[.string g.name, .slice g.cA g.cats.length g.cC, .string g.start, .int .i64 g.startNo, .slice g.eA g.entries.length g.eC, .slice g.rA g.rules.length g.rC, .map (some mb), .slice wA nw wC] 83)) (.cells #[.int .i64 i] 3)) (.cells #[.int .i64 many] 3))
 have h1 := hide (((Blk.new w #[.string g.name, .slice g.cA g.cats.length g.cC, .string g.start, .int .i64 g.startNo, .slice g.eA g.entries.length g.eC, .slice g.rA g.rules.length g.rC, .map (some mb), .slice wA nw wC] 83).alloc (.cells #[.int .i64 i] 3)).alloc (.cells #[.int .i64 many] 3))
 have h2 := hide ((Blk.new1 w (.cells #[.string g.name, .slice g.cA g.cats.length g.cC, .string g.start, .int .i64 g.startNo, .slice g.eA g.entries.length g.eC, .slice g.rA g.rules.length g.rC, .map (some mb), .slice wA nw wC] 83) #[.int .i64 i] 3).alloc (.cells #[.int .i64 many] 3))
 have h3 := hide (Blk.new2 w (.cells #[.string g.name, .slice g.cA g.cats.length g.cC, .string g.start, .int .i64 g.startNo, .slice g.eA g.entries.length g.eC, .slice g.rA g.rules.length g.rC, .map (some mb), .slice wA nw wC] 83) (.cells #[.int .i64 i] 3) #[.int .i64 many] 3)
 simp only [tagCs]
 go_enter Tryz.func36, Tryz.ntmps36
 go_wp2
 go_ret
 exact ⟨⟨w.heap.size + 1, w.heap.size + 2, w.heap.size, rfl, ⟨h2.out, h1.out, Nat.le_succ _, Nat.le_refl _⟩, h3.out, Nat.le_add_right _ _⟩, hb.out⟩
theorem entries38 (g : GramH) (mb : Nat) (wA : Option Addr) (wC nw i : Nat) (w : World) : Calls Tryz.prog 38 #[.agg (tagCs g mb wA wC nw), .int .i64 i] w fun e w' => EntAt g mb wA wC nw i e w.heap.size w' ∧ Below w.heap.size w w' := by
 have hb := hide (kalloc (kalloc (Below.refl w.heap.size w) (.cells #[.string g.name, .slice g.cA g.cats.length g.cC, .string g.start, .int .i64 g.startNo, .slice g.eA g.entries.length g.eC, .slice g.rA g.rules.length g.rC, .map (some mb), .slice wA nw wC] 83)) (.cells #[.int .i64 i] 3))
 have h1 := hide ((Blk.new w #[.string g.name, .slice g.cA g.cats.length g.cC, .string g.start, .int .i64 g.startNo, .slice g.eA g.entries.length g.eC, .slice g.rA g.rules.length g.rC, .map (some mb), .slice wA nw wC] 83).alloc (.cells #[.int .i64 i] 3))
 have h2 := hide (Blk.new1 w (.cells #[.string g.name, .slice g.cA g.cats.length g.cC, .string g.start, .int .i64 g.startNo, .slice g.eA g.entries.length g.eC, .slice g.rA g.rules.length g.rC, .map (some mb), .slice wA nw wC] 83) #[.int .i64 i] 3)
 simp only [tagCs]
 go_enter Tryz.func38, Tryz.ntmps38
 go_wp2
 go_ret
 exact ⟨⟨w.heap.size + 1, w.heap.size, rfl, ⟨h2.out, h1.out, Nat.le_succ _, Nat.le_refl _⟩⟩, hb.out⟩
theorem unknowns40 (g : GramH) (mb : Nat) (wA : Option Addr) (wC nw i : Nat) (w : World) : Calls Tryz.prog 40 #[.agg (tagCs g mb wA wC nw), .int .i64 i] w fun e w' => UnkAt g mb wA wC nw i e w.heap.size w' ∧ Below w.heap.size w w' := by
 have hb := hide (kalloc (kalloc (Below.refl w.heap.size w) (.cells #[.string g.name, .slice g.cA g.cats.length g.cC, .string g.start, .int .i64 g.startNo, .slice g.eA g.entries.length g.eC, .slice g.rA g.rules.length g.rC, .map (some mb), .slice wA nw wC] 83)) (.cells #[.int .i64 i] 3))
 have h1 := hide ((Blk.new w #[.string g.name, .slice g.cA g.cats.length g.cC, .string g.start, .int .i64 g.startNo, .slice g.eA g.entries.length g.eC, .slice g.rA g.rules.length g.rC, .map (some mb), .slice wA nw wC] 83).alloc (.cells #[.int .i64 i] 3))
 have h2 := hide (Blk.new1 w (.cells #[.string g.name, .slice g.cA g.cats.length g.cC, .string g.start, .int .i64 g.startNo, .slice g.eA g.entries.length g.eC, .slice g.rA g.rules.length g.rC, .map (some mb), .slice wA nw wC] 83) #[.int .i64 i] 3)
 simp only [tagCs]
 go_enter Tryz.func40, Tryz.ntmps40
 go_wp2
 go_ret
 exact ⟨⟨w.heap.size + 1, w.heap.size, rfl, ⟨h2.out, h1.out, Nat.le_succ _, Nat.le_refl _⟩⟩, hb.out⟩
theorem of35 (g : GramH) (mb : Nat) (wA : Option Addr) (wC nw i : Nat) (qt qi : Nat) (w : World) (ht : Blk w qt 83 (tagCs g mb wA wC nw)) (hi : Blk w qi 3 #[.int .i64 i]) : Calls Tryz.prog 35 #[.pointer (some ⟨qt, 0, none⟩), .pointer (some ⟨qi, 0, none⟩)] w fun e w' => TermAt g mb wA wC nw i 1 e w.heap.size w' ∧ Below w.heap.size w w' := by
 have K := term36 g mb wA wC nw i 1 w
 simp only [tagCs] at K
 replace K := hide K
 have c0 := ht.cell (v := .string g.name) 0 rfl
 have c1 := ht.cell (v := .slice g.cA g.cats.length g.cC) 1 rfl
 have c2 := ht.cell (v := .string g.start) 2 rfl
 have c3 := ht.cell (v := .int .i64 g.startNo) 3 rfl
 have c4 := ht.cell (v := .slice g.eA g.entries.length g.eC) 4 rfl
 have c5 := ht.cell (v := .slice g.rA g.rules.length g.rC) 5 rfl
 have c6 := ht.cell (v := .map (some mb)) 6 rfl
 have c7 := ht.cell (v := .slice wA nw wC) 7 rfl
 have cl := ht.lt
 have d0 := hi.cell (v := .int .i64 i) 0 rfl
 have dl := hi.lt
 clear ht hi
 go_enter Tryz.func35, Tryz.ntmps35
 go_wp2_with fail
 refine K.out.mono ?_
 rintro e w' ⟨h, hb⟩
 have HH := hide h
 have HB := hide hb
 obtain ⟨EX, rfl⟩ : ∃ v, e = .returned v := by obtain ⟨pi, pm, pt, rfl, _⟩ := h; exact ⟨_, rfl⟩
 clear h hb K
 go_wp2
 go_ret
 exact ⟨HH.out, HB.out⟩
theorem of41 (g : GramH) (mb : Nat) (wA : Option Addr) (wC nw i : Nat) (qt qi : Nat) (w : World) (ht : Blk w qt 83 (tagCs g mb wA wC nw)) (hi : Blk w qi 3 #[.int .i64 i]) : Calls Tryz.prog 41 #[.pointer (some ⟨qt, 0, none⟩), .pointer (some ⟨qi, 0, none⟩)] w fun e w' => TermAt g mb wA wC nw i 2 e w.heap.size w' ∧ Below w.heap.size w w' := by
 have K := term36 g mb wA wC nw i 2 w
 simp only [tagCs] at K
 replace K := hide K
 have c0 := ht.cell (v := .string g.name) 0 rfl
 have c1 := ht.cell (v := .slice g.cA g.cats.length g.cC) 1 rfl
 have c2 := ht.cell (v := .string g.start) 2 rfl
 have c3 := ht.cell (v := .int .i64 g.startNo) 3 rfl
 have c4 := ht.cell (v := .slice g.eA g.entries.length g.eC) 4 rfl
 have c5 := ht.cell (v := .slice g.rA g.rules.length g.rC) 5 rfl
 have c6 := ht.cell (v := .map (some mb)) 6 rfl
 have c7 := ht.cell (v := .slice wA nw wC) 7 rfl
 have cl := ht.lt
 have d0 := hi.cell (v := .int .i64 i) 0 rfl
 have dl := hi.lt
 clear ht hi
 go_enter Tryz.func41, Tryz.ntmps41
 go_wp2_with fail
 refine K.out.mono ?_
 rintro e w' ⟨h, hb⟩
 have HH := hide h
 have HB := hide hb
 obtain ⟨EX, rfl⟩ : ∃ v, e = .returned v := by obtain ⟨pi, pm, pt, rfl, _⟩ := h; exact ⟨_, rfl⟩
 clear h hb K
 go_wp2
 go_ret
 exact ⟨HH.out, HB.out⟩
theorem of42 (g : GramH) (mb : Nat) (wA : Option Addr) (wC nw i : Nat) (qt qi : Nat) (w : World) (ht : Blk w qt 83 (tagCs g mb wA wC nw)) (hi : Blk w qi 3 #[.int .i64 i]) : Calls Tryz.prog 42 #[.pointer (some ⟨qt, 0, none⟩), .pointer (some ⟨qi, 0, none⟩)] w fun e w' => TermAt g mb wA wC nw i 3 e w.heap.size w' ∧ Below w.heap.size w w' := by
 have K := term36 g mb wA wC nw i 3 w
 simp only [tagCs] at K
 replace K := hide K
 have c0 := ht.cell (v := .string g.name) 0 rfl
 have c1 := ht.cell (v := .slice g.cA g.cats.length g.cC) 1 rfl
 have c2 := ht.cell (v := .string g.start) 2 rfl
 have c3 := ht.cell (v := .int .i64 g.startNo) 3 rfl
 have c4 := ht.cell (v := .slice g.eA g.entries.length g.eC) 4 rfl
 have c5 := ht.cell (v := .slice g.rA g.rules.length g.rC) 5 rfl
 have c6 := ht.cell (v := .map (some mb)) 6 rfl
 have c7 := ht.cell (v := .slice wA nw wC) 7 rfl
 have cl := ht.lt
 have d0 := hi.cell (v := .int .i64 i) 0 rfl
 have dl := hi.lt
 clear ht hi
 go_enter Tryz.func42, Tryz.ntmps42
 go_wp2_with fail
 refine K.out.mono ?_
 rintro e w' ⟨h, hb⟩
 have HH := hide h
 have HB := hide hb
 obtain ⟨EX, rfl⟩ : ∃ v, e = .returned v := by obtain ⟨pi, pm, pt, rfl, _⟩ := h; exact ⟨_, rfl⟩
 clear h hb K
 go_wp2
 go_ret
 exact ⟨HH.out, HB.out⟩
theorem of43 (g : GramH) (mb : Nat) (wA : Option Addr) (wC nw i : Nat) (qt qi : Nat) (w : World) (ht : Blk w qt 83 (tagCs g mb wA wC nw)) (hi : Blk w qi 3 #[.int .i64 i]) : Calls Tryz.prog 43 #[.pointer (some ⟨qt, 0, none⟩), .pointer (some ⟨qi, 0, none⟩)] w fun e w' => TermAt g mb wA wC nw i 4 e w.heap.size w' ∧ Below w.heap.size w w' := by
 have K := term36 g mb wA wC nw i 4 w
 simp only [tagCs] at K
 replace K := hide K
 have c0 := ht.cell (v := .string g.name) 0 rfl
 have c1 := ht.cell (v := .slice g.cA g.cats.length g.cC) 1 rfl
 have c2 := ht.cell (v := .string g.start) 2 rfl
 have c3 := ht.cell (v := .int .i64 g.startNo) 3 rfl
 have c4 := ht.cell (v := .slice g.eA g.entries.length g.eC) 4 rfl
 have c5 := ht.cell (v := .slice g.rA g.rules.length g.rC) 5 rfl
 have c6 := ht.cell (v := .map (some mb)) 6 rfl
 have c7 := ht.cell (v := .slice wA nw wC) 7 rfl
 have cl := ht.lt
 have d0 := hi.cell (v := .int .i64 i) 0 rfl
 have dl := hi.lt
 clear ht hi
 go_enter Tryz.func43, Tryz.ntmps43
 go_wp2_with fail
 refine K.out.mono ?_
 rintro e w' ⟨h, hb⟩
 have HH := hide h
 have HB := hide hb
 obtain ⟨EX, rfl⟩ : ∃ v, e = .returned v := by obtain ⟨pi, pm, pt, rfl, _⟩ := h; exact ⟨_, rfl⟩
 clear h hb K
 go_wp2
 go_ret
 exact ⟨HH.out, HB.out⟩
theorem of37 (g : GramH) (mb : Nat) (wA : Option Addr) (wC nw i : Nat) (qt qi : Nat) (w : World) (ht : Blk w qt 83 (tagCs g mb wA wC nw)) (hi : Blk w qi 3 #[.int .i64 i]) : Calls Tryz.prog 37 #[.pointer (some ⟨qt, 0, none⟩), .pointer (some ⟨qi, 0, none⟩)] w fun e w' => EntAt g mb wA wC nw i e w.heap.size w' ∧ Below w.heap.size w w' := by
 have K := entries38 g mb wA wC nw i w
 simp only [tagCs] at K
 replace K := hide K
 have c0 := ht.cell (v := .string g.name) 0 rfl
 have c1 := ht.cell (v := .slice g.cA g.cats.length g.cC) 1 rfl
 have c2 := ht.cell (v := .string g.start) 2 rfl
 have c3 := ht.cell (v := .int .i64 g.startNo) 3 rfl
 have c4 := ht.cell (v := .slice g.eA g.entries.length g.eC) 4 rfl
 have c5 := ht.cell (v := .slice g.rA g.rules.length g.rC) 5 rfl
 have c6 := ht.cell (v := .map (some mb)) 6 rfl
 have c7 := ht.cell (v := .slice wA nw wC) 7 rfl
 have cl := ht.lt
 have d0 := hi.cell (v := .int .i64 i) 0 rfl
 have dl := hi.lt
 clear ht hi
 go_enter Tryz.func37, Tryz.ntmps37
 go_wp2_with fail
 refine K.out.mono ?_
 rintro e w' ⟨h, hb⟩
 have HH := hide h
 have HB := hide hb
 obtain ⟨EX, rfl⟩ : ∃ v, e = .returned v := by obtain ⟨pi, pt, rfl, _⟩ := h; exact ⟨_, rfl⟩
 clear h hb K
 go_wp2
 go_ret
 exact ⟨HH.out, HB.out⟩
set_option maxRecDepth 100000 in
theorem of39 (g : GramH) (mb : Nat) (wA : Option Addr) (wC nw i : Nat) (A : Option Addr) (nn c n0 : Nat) (qx qb qt qi qw : Nat) (w : World) (hx : Blk w qx 46 #[.slice A nn c]) (hb0 : Blk w qb 3 #[.int .i64 n0]) (ht : Blk w qt 83 (tagCs g mb wA wC nw)) (hi : Blk w qi 3 #[.int .i64 i]) (hq : Blk w qw 22 #[.slice wA nw wC]) (hnw : nw ≤ 16) :
  Calls Tryz.prog 39 #[.pointer (some ⟨qx, 0, none⟩), .pointer (some ⟨qb, 0, none⟩), .pointer (some ⟨qt, 0, none⟩), .pointer (some ⟨qi, 0, none⟩), .pointer (some ⟨qw, 0, none⟩)] w fun e w' => (if nn = n0 then UnkAt g mb wA wC nw i e w.heap.size w' else TermAt g mb wA wC nw i (nw + 1) e w.heap.size w') ∧ Below w.heap.size w w' := by
 have K1 := unknowns40 g mb wA wC nw i w
 have K2 := term36 g mb wA wC nw i (nw + 1) w
 have ec : ((nw + 1 : Nat) : Int) = (nw : Int) + 1 := by omega
 rw [ec] at K2
 simp only [tagCs] at K1 K2
 replace K1 := hide K1
 replace K2 := hide K2
 have c0 := ht.cell (v := .string g.name) 0 rfl
 have c1 := ht.cell (v := .slice g.cA g.cats.length g.cC) 1 rfl
 have c2 := ht.cell (v := .string g.start) 2 rfl
 have c3 := ht.cell (v := .int .i64 g.startNo) 3 rfl
 have c4 := ht.cell (v := .slice g.eA g.entries.length g.eC) 4 rfl
 have c5 := ht.cell (v := .slice g.rA g.rules.length g.rC) 5 rfl
 have c6 := ht.cell (v := .map (some mb)) 6 rfl
 have c7 := ht.cell (v := .slice wA nw wC) 7 rfl
 have cl := ht.lt
 have d0 := hi.cell (v := .int .i64 i) 0 rfl
 have dl := hi.lt
 have x0 := hx.cell (v := .slice A nn c) 0 rfl
 have xl := hx.lt
 have y0 := hb0.cell (v := .int .i64 n0) 0 rfl
 have yl := hb0.lt
 have z0 := hq.cell (v := .slice wA nw wC) 0 rfl
 have zl := hq.lt
 clear ht hi hx hb0 hq
 by_cases h : nn = n0
 ·simp only [if_pos h]
  subst h
  go_enter Tryz.func39, Tryz.ntmps39
  go_wp2_with fail
  refine K1.out.mono ?_
  rintro e w' ⟨h, hb⟩
  have HH := hide h
  have HB := hide hb
  obtain ⟨EX, rfl⟩ : ∃ v, e = .returned v := by obtain ⟨pi, pt, rfl, _⟩ := h; exact ⟨_, rfl⟩
  clear h hb K1 K2
  go_wp2
  go_ret
  exact ⟨HH.out, HB.out⟩
 ·simp only [if_neg h]
  have g1 : ((nn : Int) == n0) = false := by simp; omega
  have hwr : IntKind.i64.wrap ((nw : Int) + 1) = (nw : Int) + 1 := by rw [IntKind.wrap_i64]; omega
  clear h
  go_enter Tryz.func39, Tryz.ntmps39
  go_wp2_with fail
  refine K2.out.mono ?_
  rintro e w' ⟨h, hb⟩
  have HH := hide h
  have HB := hide hb
  obtain ⟨EX, rfl⟩ : ∃ v, e = .returned v := by obtain ⟨pi, pm, pt, rfl, _⟩ := h; exact ⟨_, rfl⟩
  clear h hb K1 K2
  go_wp2
  go_ret
  exact ⟨HH.out, HB.out⟩
end Go.Proofs.YtkfdafeonhnloaaGreatDoor
namespace Go.Mine.C
open Go.RowKit Go.Mine
def putS (m : SMap) (x : TermH) : SMap := fun s => if s = joinSp x.source then some x else m s
def tmOf (l : List TermH) : SMap := l.foldl putS (fun _ => none)
theorem tmOf_snoc (l : List TermH) (x : TermH) : tmOf (l ++ [x]) = putS (tmOf l) x := by unfold tmOf; rw [List.foldl_append]; rfl
theorem smV_put (m : SMap) (x : TermH) : smV (putS m x) = updG (smV m) (joinSp x.source) (termV x) := by
 funext s
 unfold smV putS updG
 by_cases h : s = joinSp x.source
 ·rw [if_pos h, if_pos h]; rfl
 ·rw [if_neg h, if_neg h]
theorem tmOf_mem : ∀ (l : List TermH) (s : Str) (x : TermH), tmOf l s = some x → x ∈ l := by
 have : ∀ (l : List TermH) (m : SMap) (s : Str) (x : TermH), l.foldl putS m s = some x → x ∈ l ∨ m s = some x := by
  intro l
  induction l with
  | nil => intro m s x h; exact .inr h
  | cons y l ih =>
   intro m s x h
   rw [List.foldl_cons] at h
   rcases ih _ s x h with h1 | h1
   ·exact .inl (List.mem_cons_of_mem _ h1)
   ·unfold putS at h1
    split at h1
    ·cases h1; exact .inl (by simp)
    ·exact .inr h1
 intro l s x h
 rcases this l _ s x h with h1 | h1
 ·exact h1
 ·cases h1
def wordI (i : Nat) (u : Str) : ItemM := ⟨-1, i, (i : Int) + 1, 0, [u], -1⟩
def baseGo : List Str → Nat → List ItemM
 | [], _ => []
 | u :: l, i => wordI i u :: baseGo l (i + 1)
def termM (tm : SMap) (cats words : List Str) (i many : Nat) : List ItemM := (termH tm cats words i many).map ItemH.m
def entM (u : Str) (i : Nat) (l : List EntH) : List ItemM := (entI u i l).map ItemH.m
def unkL (cats : List Str) (u : Str) (i : Nat) : List ItemM := (List.range cats.length).map (unkM u i)
def foundM (tm : SMap) (g : GramH) (words : List Str) (i : Nat) (u : Str) : List ItemM := termM tm g.cats words i 1 ++ entM u i g.entries
def placeM (tm : SMap) (g : GramH) (words : List Str) (i : Nat) (u : Str) : List ItemM :=
 foundM tm g words i u ++ ((if foundM tm g words i u = [] then unkL g.cats u i else []) ++ (termM tm g.cats words i 2 ++ (termM tm g.cats words i 3 ++ termM tm g.cats words i 4)))
def placesGo (tm : SMap) (g : GramH) (words : List Str) : List Str → Nat → List ItemM
 | [], _ => []
 | u :: l, i => placeM tm g words i u ++ placesGo tm g words l (i + 1)
def itemsL (tm : SMap) (g : GramH) (words : List Str) : List ItemM := baseGo words 0 ++ placesGo tm g words words 0
end Go.Mine.C
namespace Go.Proofs.YtkfdafeonhnloaaGreatDoor
open Go.RowKit Go.Shelf Go.Mine Go.Mine.C
def IterAll (w : World) (G : Nat) (lb : Array Value) (L : List ItemM) (W : World) : Prop :=
 ∀ row : Nat → Prop, (∀ b, row b → w.heap.size ≤ b ∧ ∃ cur fz, W.heap[b]? = some (.cells cur 68 fz)) → ∃ M : Nat → ItemH → Prop, (∀ k h, M k h → L[k]? = some h.m) ∧
  IterG Tryz.prog G lb L.length (Gives itemV M (okItem w.heap.size)) none (fun _ => False) (fun b => b < W.heap.size ∧ ¬ row b) W
def AddsPost (w : World) (L : List ItemM) (e : Ending) (W : World) : Prop :=
 ∃ (G : Nat) (lb : Array Value), e = .returned (.func (.func G) #[] lb) ∧ (∀ args w, (callFunc G args).run Tryz.prog w = .ok (.enter G args) w) ∧ IterAll w G lb L W
theorem e77 : ∀ args w, (callFunc 77 args).run Tryz.prog w = .ok (.enter 77 args) w := enters_of Tryz.func77 (by kernel_rfl) rfl
theorem e79 : ∀ args w, (callFunc 79 args).run Tryz.prog w = .ok (.enter 79 args) w := enters_of Tryz.func79 (by kernel_rfl) rfl
theorem e80 : ∀ args w, (callFunc 80 args).run Tryz.prog w = .ok (.enter 80 args) w := enters_of Tryz.func80 (by kernel_rfl) rfl
theorem not_row {W : World} {row : Nat → Prop} {w : World} (hr : ∀ b, row b → w.heap.size ≤ b ∧ ∃ cur fz, W.heap[b]? = some (.cells cur 68 fz)) {b : Nat} {ty : TypeId} {cs : Array Value} (h : Blk W b ty cs) (hty : ty ≠ 68) : b < W.heap.size ∧ ¬ row b :=
 ⟨h.lt, fun hb => by
  obtain ⟨_, cur, fz, e⟩ := hr b hb
  rw [h.at_] at e
  simp at e
  exact hty e.2.1⟩
theorem not_row_map {W : World} {row : Nat → Prop} {w : World} (hr : ∀ b, row b → w.heap.size ≤ b ∧ ∃ cur fz, W.heap[b]? = some (.cells cur 68 fz)) {tm : SMap} {mb : Nat} (h : TagIn w tm mb W) : mb < W.heap.size ∧ ¬ row mb := by
 obtain ⟨n, cnt, hM⟩ := h.map
 refine ⟨hM.lt, fun hb => ?_⟩
 obtain ⟨_, cur, fz, e⟩ := hr mb hb
 obtain ⟨D, ⟨es, clock, hbb, _⟩, _⟩ := hM
 rw [hbb] at e
 cases e
theorem adds_term {w : World} {g : GramH} {wA : Option Addr} {wC : Nat} {words : List ByteArray} {tm : SMap} {mb i many : Nat} {e : Ending} {lo : Nat} {W : World} (hC : TagC w g wA wC words tm) (hT : TagIn w tm mb W) (h : TermAt g mb wA wC words.length i many e lo W) (hi : i ≤ 16) (hm : 1 ≤ many ∧ many ≤ 17) (hw : words.length ≤ 16) :
  AddsPost w (termM tm g.cats words i many) e W := by
 obtain ⟨pi, pm, pt, rfl, hI, hpm, _⟩ := h
 refine ⟨77, _, rfl, e77, fun row hr => ⟨fun k h => (termH tm g.cats words i many)[k]? = some h, fun k h hk => ?_, ?_⟩⟩
 ·unfold termM
  rw [List.getElem?_map, hk]
  rfl
 ·have := term77 w g wA wC words tm mb pi pm pt i many W (fun b => b < W.heap.size ∧ ¬ row b) hC hT hI.pi_ hpm hI.pt_ ⟨not_row hr hI.pi_ (by decide), not_row hr hpm (by decide), not_row hr hI.pt_ (by decide), not_row_map hr hT⟩ (fun b hb => ⟨Nat.lt_of_lt_of_le hb hT.size, fun h => by have := (hr b h).1; omega⟩) hi hm hw
  have e : (termM tm g.cats words i many).length = (termH tm g.cats words i many).length := by unfold termM; rw [List.length_map]
  rw [e]
  exact this
theorem adds_ent {w : World} {g : GramH} {wA : Option Addr} {wC : Nat} {words : List ByteArray} {tm : SMap} {mb i : Nat} {u : ByteArray} {e : Ending} {lo : Nat} {W : World} (hC : TagC w g wA wC words tm) (hT : TagIn w tm mb W) (h : EntAt g mb wA wC words.length i e lo W) (hu : words[i]? = some u) (hw : words.length ≤ 16) (hen : g.entries.length ≤ 512) :
  AddsPost w (entM u i g.entries) e W := by
 obtain ⟨pi, pt, rfl, hI⟩ := h
 refine ⟨79, _, rfl, e79, fun row hr => ⟨fun k h => (entI u i g.entries)[k]? = some h, fun k h hk => ?_, ?_⟩⟩
 ·unfold entM
  rw [List.getElem?_map, hk]
  rfl
 ·have := entries79 w g wA wC words tm mb pi pt i u W (fun b => b < W.heap.size ∧ ¬ row b) hC hT hI.pi_ hI.pt_ ⟨not_row hr hI.pi_ (by decide), not_row hr hI.pt_ (by decide), not_row_map hr hT⟩ (fun b hb => ⟨Nat.lt_of_lt_of_le hb hT.size, fun h => by have := (hr b h).1; omega⟩) hu hw hen
  have e : (entM u i g.entries).length = (entI u i g.entries).length := by unfold entM; rw [List.length_map]
  rw [e]
  exact this
theorem adds_unk {w : World} {g : GramH} {wA : Option Addr} {wC : Nat} {words : List ByteArray} {tm : SMap} {mb i : Nat} {u : ByteArray} {e : Ending} {lo : Nat} {W : World} (hC : TagC w g wA wC words tm) (hT : TagIn w tm mb W) (h : UnkAt g mb wA wC words.length i e lo W) (hu : words[i]? = some u) (hw : words.length ≤ 16) (hen : g.cats.length ≤ 32) :
  AddsPost w (unkL g.cats u i) e W := by
 obtain ⟨pi, pt, rfl, hI⟩ := h
 have e : (unkL g.cats u i).length = g.cats.length := by unfold unkL; simp
 refine ⟨80, _, rfl, e80, fun row hr => ⟨fun k h => k < g.cats.length ∧ h.m = unkM u i k, fun k h hk => ?_, ?_⟩⟩
 ·unfold unkL
  rw [List.getElem?_map, List.getElem?_range hk.1, hk.2]
  rfl
 ·have := unknowns80 w g wA wC words tm mb pi pt i u W (fun b => b < W.heap.size ∧ ¬ row b) hC hT hI.pi_ hI.pt_ ⟨not_row hr hI.pi_ (by decide), not_row hr hI.pt_ (by decide), not_row_map hr hT⟩ (fun b hb => ⟨Nat.lt_of_lt_of_le hb hT.size, fun h => by have := (hr b h).1; omega⟩) hu hw hen
  rw [e]
  refine fun n l J Jx W h1 h2 h3 h4 h5 h6 => this n l J Jx W h1 h2 h3 h4 (fun k x O W1 hk hY => h5 k x O W1 hk ?_) h6
  obtain ⟨h, e1, e2, e3⟩ := hY.ex
  exact ⟨h, e1, ⟨hk, e2⟩, e3⟩
theorem adds44 (w : World) (L : List ItemM) (G : Nat) (lb : Array Value) (hG : ∀ args w, (callFunc G args).run Tryz.prog w = .ok (.enter G args) w) (W : World) (hI : IterAll w G lb L W) (hwW : w.heap.size ≤ W.heap.size) (v : Value) (is : List ItemH) (hv : OwnL itemC 6 68 W w.heap.size v is) (hok : ∀ x ∈ is, okItem w.heap.size (fun _ => False) W x) (hN : is.length + L.length ≤ 1000000) :
  Calls Tryz.prog 44 #[v, .func (.func G) #[] lb] W fun e W' => ∃ (v' : Value) (hs : List ItemH), e = .returned v' ∧ OwnL itemC 6 68 W' w.heap.size v' (is ++ hs) ∧ hs.map ItemH.m = L ∧ (∀ x ∈ is ++ hs, okItem w.heap.size (fun _ => False) W' x) ∧ KeptBut (fun b => v.ownBlock = some b) W W' := by
 obtain ⟨M, hM, hit⟩ := hI (fun b => v.ownBlock = some b) (fun b hb => by
  obtain ⟨h1, _, cur, h2⟩ := hv.blk hb
  exact ⟨h1, cur, _, h2⟩)
 refine (appendSeq44 G lb hG L.length M (okItem w.heap.size) w.heap.size (okItem_ok _) none (fun _ => False) _ W hit (fun b hb => by rcases hb with h | h; exact h.elim; exact h.1) hwW v is hv (fun g hg => ⟨fun h => h, fun h => h.2 hg⟩) hN).mono ?_
 rintro e W' ⟨hk, v', hs, O, rfl, ho, hc, _⟩
 refine ⟨v', hs, rfl, ho, ?_, fun x hx => ?_, hk.mono fun b hb => by rcases hb with h | h; exact h.elim; exact h⟩
 ·apply List.ext_getElem?
  intro k
  rw [List.getElem?_map]
  by_cases hkl : k < hs.length
  ·rw [List.getElem?_eq_getElem hkl]
   exact (hM k _ (hc.at_ k _ (List.getElem?_eq_getElem hkl))).symm
  ·rw [List.getElem?_eq_none (by omega), List.getElem?_eq_none (by have := hc.len; omega)]
   rfl
 ·rcases List.mem_append.1 hx with hx | hx
  ·refine (okItem_ok w.heap.size).other (hok x hx) hk.size (fun b hb hd => hk.keep b hb fun h => ?_)
   rcases h with h | h
   ·exact h
   ·obtain ⟨h1, _, cur, h2⟩ := hv.blk h
    rcases hd with hd | ⟨cs, fz, hd⟩
    ·omega
    ·rw [hd] at h2
     simp at h2
  ·exact SlT.mono (hc.ok x hx) fun _ h => h.elim
end Go.Proofs.YtkfdafeonhnloaaGreatDoor
namespace Go.Mine.C
open Go.RowKit Go.Mine
noncomputable def preI (g : GramH) (lang at_ known : Int) (l : List TermH) (words : List Str) : Bool := okB g && (standB lang at_ known l && decide (words.length ≤ 16))
def ItemsPost (g : GramH) (lang at_ known : Int) (l : List TermH) (words : List Str) (w w' : World) (e : Ending) : Prop :=
 ∃ (v : Value) (er : Int), e = .returned (.tuple #[v, .int .i64 er]) ∧ (preI g lang at_ known l words = false → er ≠ 0) ∧ (preI g lang at_ known l words = true → words.all wordB = false → er = 280) ∧
  (er ≠ 0 → v = .slice none 0 0) ∧
  (preI g lang at_ known l words = true → words.all wordB = true → ((itemsL (tmOf (standL lang at_ known l)) g words).length ≤ 1024 ↔ er = 0)) ∧
  (er = 0 → ∃ is : List ItemH, OwnL itemC 6 68 w' w.heap.size v is ∧ is.map ItemH.m = itemsL (tmOf (standL lang at_ known l)) g words ∧ ∀ x ∈ is, okItem w.heap.size (fun _ => False) w' x)
theorem ItemsPost.bad {g : GramH} {lang at_ known : Int} {l : List TermH} {words : List Str} {w w' : World} {er : Int} (he : er ≠ 0) (h : preI g lang at_ known l words = false) : ItemsPost g lang at_ known l words w w' (.returned (.tuple #[.slice none 0 0, .int .i64 er])) :=
 ⟨_, er, rfl, fun _ => he, fun h' => by (rw [h] at h'; cases h'), fun _ => rfl, fun h' => by (rw [h] at h'; cases h'), fun h0 => absurd h0 he⟩
theorem ItemsPost.word {g : GramH} {lang at_ known : Int} {l : List TermH} {words : List Str} {w w' : World} (h : words.all wordB = false) : ItemsPost g lang at_ known l words w w' (.returned (.tuple #[.slice none 0 0, .int .i64 280])) :=
 ⟨_, 280, rfl, fun _ => by decide, fun _ _ => rfl, fun _ => rfl, fun _ h' => by (rw [h] at h'; cases h'), fun h0 => by cases h0⟩
def piece (tm : SMap) (g : GramH) (words : List Str) (i : Nat) (u : Str) : Nat → List ItemM
 | 0 => termM tm g.cats words i 1
 | 1 => entM u i g.entries
 | 2 => if foundM tm g words i u = [] then unkL g.cats u i else []
 | 3 => termM tm g.cats words i 2
 | 4 => termM tm g.cats words i 3
 | _ => termM tm g.cats words i 4
def piecesTo (tm : SMap) (g : GramH) (words : List Str) (i : Nat) (u : Str) : Nat → List ItemM
 | 0 => []
 | k + 1 => piecesTo tm g words i u k ++ piece tm g words i u k
theorem piecesTo_six (tm : SMap) (g : GramH) (words : List Str) (i : Nat) (u : Str) : piecesTo tm g words i u 6 = placeM tm g words i u := by
 unfold placeM
 conv => rhs; unfold foundM
 simp [piecesTo, piece, foundM]
theorem placesGo_snoc (tm : SMap) (g : GramH) (words : List Str) (u : Str) : ∀ (l : List Str) (k : Nat), placesGo tm g words (l ++ [u]) k = placesGo tm g words l k ++ placeM tm g words (k + l.length) u
 | [], k => by simp [placesGo]
 | x :: l, k => by
  rw [List.cons_append]
  unfold placesGo
  rw [placesGo_snoc tm g words u l (k + 1), List.length_cons, List.append_assoc]
  congr 3
  omega
theorem termM_len (tm : SMap) (cats words : List Str) (i many : Nat) : (termM tm cats words i many).length ≤ 1 := by
 unfold termM termH
 rw [List.length_map]
 repeat' split
 all_goals simp
theorem entM_len (u : Str) (i : Nat) (l : List EntH) : (entM u i l).length ≤ l.length := by
 unfold entM entI
 rw [List.length_map, List.length_map]
 exact List.length_filter_le _ _
theorem unkL_len (cats : List Str) (u : Str) (i : Nat) : (unkL cats u i).length = cats.length := by unfold unkL; simp
theorem piece_len (tm : SMap) (g : GramH) (words : List Str) (i : Nat) (u : Str) (he : g.entries.length ≤ 512) (hc : g.cats.length ≤ 32) (k : Nat) : (piece tm g words i u k).length ≤ 512 := by
 unfold piece
 split
 ·have := termM_len tm g.cats words i 1; omega
 ·have := entM_len u i g.entries; omega
 ·split
  ·rw [unkL_len]; omega
  ·simp
 ·have := termM_len tm g.cats words i 2; omega
 ·have := termM_len tm g.cats words i 3; omega
 ·have := termM_len tm g.cats words i 4; omega
theorem piecesTo_len (tm : SMap) (g : GramH) (words : List Str) (i : Nat) (u : Str) (he : g.entries.length ≤ 512) (hc : g.cats.length ≤ 32) : ∀ k, (piecesTo tm g words i u k).length ≤ 512 * k
 | 0 => by simp [piecesTo]
 | k + 1 => by
  have := piecesTo_len tm g words i u he hc k
  have := piece_len tm g words i u he hc k
  rw [piecesTo, List.length_append]
  omega
theorem placesGo_len (tm : SMap) (g : GramH) (words : List Str) (he : g.entries.length ≤ 512) (hc : g.cats.length ≤ 32) : ∀ (l : List Str) (k : Nat), (placesGo tm g words l k).length ≤ 3072 * l.length
 | [], _ => by simp [placesGo]
 | u :: l, k => by
  have := placesGo_len tm g words he hc l (k + 1)
  have h2 := piecesTo_len tm g words k u he hc 6
  rw [piecesTo_six] at h2
  rw [placesGo, List.length_append, List.length_cons]
  omega
theorem termM_over (tm : SMap) (cats words : List Str) (i : Nat) : termM tm cats words i (words.length + 1) = [] := by
 unfold termM termH
 rw [if_pos (by omega)]
 rfl
end Go.Mine.C
namespace Go.Proofs.YtkfdafeonhnloaaGreatDoor
open Go.RowKit Go.Shelf Go.Mine Go.Mine.C
structure Tg13 (g : GramH) (wA : Option Addr) (wC nw mb nm : Nat) (tm : SMap) (w W : World) : Prop where
 wbx : Blk W (w.heap.size + 1) 22 #[.slice wA nw wC]
 tbx : Blk W (mb + 1) 83 (tagCs g mb wA wC nw)
 map : ∃ n cnt, n ≤ nm ∧ MapG Tryz.prog 9 litS okS W mb n (smV tm) cnt
 bel : Below w.heap.size w W
 low : w.heap.size + 3 ≤ mb
theorem Tg13.belw {g : GramH} {wA : Option Addr} {wC nw mb nm : Nat} {tm : SMap} {w W W' : World} (h : Tg13 g wA wC nw mb nm tm w W) (hb : Below W.heap.size W W') : Tg13 g wA wC nw mb nm tm w W' := by
 obtain ⟨n, cnt, h1, h2⟩ := h.map
 exact ⟨h.wbx.bel hb, h.tbx.bel hb, ⟨n, cnt, h1, h2.bel hb⟩, kcall h.bel hb, h.low⟩
theorem baseGo_len : ∀ (l : List Str) (k : Nat), (baseGo l k).length = l.length
 | [], _ => rfl
 | _ :: l, k => by unfold baseGo; rw [List.length_cons, List.length_cons, baseGo_len l (k + 1)]
theorem baseGo_snoc : ∀ (l : List Str) (k : Nat) (u : Str), baseGo (l ++ [u]) k = baseGo l k ++ [wordI (k + l.length) u]
 | [], k, u => rfl
 | x :: l, k, u => by
  rw [List.cons_append]
  unfold baseGo
  rw [baseGo_snoc l (k + 1) u, List.length_cons, List.cons_append]
  congr 3
  congr 1
  omega
def Ws13 (g : GramH) (wA : Option Addr) (wC : Nat) (words : List ByteArray) (mb nm : Nat) (tm : SMap) (w W : World) (i : Nat) : Prop :=
 Tg13 g wA wC words.length mb nm tm w W ∧ ∃ (is : List ItemH) (v : Value), Blk W (w.heap.size + 2) 46 #[v] ∧ OwnL itemC 6 68 W w.heap.size v is ∧ is.map ItemH.m = baseGo (words.take i) 0 ∧ (∀ x ∈ is, okItem w.heap.size (fun _ => False) W x) ∧ (words.take i).all wordB = true
def Pc13 (g : GramH) (wA : Option Addr) (wC : Nat) (words : List ByteArray) (mb nm : Nat) (tm : SMap) (w W : World) (i : Nat) : Prop :=
 Tg13 g wA wC words.length mb nm tm w W ∧ ∃ (is : List ItemH) (v : Value), Blk W (w.heap.size + 2) 46 #[v] ∧ OwnL itemC 6 68 W w.heap.size v is ∧ is.map ItemH.m = baseGo words 0 ++ placesGo tm g words (words.take i) 0 ∧ ∀ x ∈ is, okItem w.heap.size (fun _ => False) W x
def cloF : Nat → Nat
 | 0 => 35
 | 1 => 37
 | 2 => 39
 | 3 => 41
 | 4 => 42
 | _ => 43
def cloC (B mb q0 q1 : Nat) : Nat → Array Value
 | 2 => #[.pointer (some ⟨B + 2, 0, none⟩), .pointer (some ⟨q1, 0, none⟩), .pointer (some ⟨mb + 1, 0, none⟩), .pointer (some ⟨q0, 0, none⟩), .pointer (some ⟨B + 1, 0, none⟩)]
 | _ => #[.pointer (some ⟨mb + 1, 0, none⟩), .pointer (some ⟨q0, 0, none⟩)]
def cloV (B mb q0 q1 k : Nat) : Value := .func (.func (cloF k)) #[] (cloC B mb q0 q1 k)
theorem cloF_enters (k : Nat) : ∀ args w, (callFunc (cloF k) args).run Tryz.prog w = .ok (.enter (cloF k) args) w := by
 unfold cloF
 split
 ·exact enters_of Tryz.func35 (by kernel_rfl) rfl
 ·exact enters_of Tryz.func37 (by kernel_rfl) rfl
 ·exact enters_of Tryz.func39 (by kernel_rfl) rfl
 ·exact enters_of Tryz.func41 (by kernel_rfl) rfl
 ·exact enters_of Tryz.func42 (by kernel_rfl) rfl
 ·exact enters_of Tryz.func43 (by kernel_rfl) rfl
structure Pl13 (g : GramH) (wA : Option Addr) (wC nw mb nm : Nat) (tm : SMap) (w : World) (i n0 q0 q1 q2 : Nat) (W : World) (is : List ItemH) (v : Value) : Prop where
 tg : Tg13 g wA wC nw mb nm tm w W
 it : Blk W (w.heap.size + 2) 46 #[v]
 own : OwnL itemC 6 68 W w.heap.size v is
 ok : ∀ x ∈ is, okItem w.heap.size (fun _ => False) W x
 bi : Blk W q0 3 #[.int .i64 i]
 b0 : Blk W q1 3 #[.int .i64 n0]
 bs : Blk W q2 91 #[cloV w.heap.size mb q0 q1 0, cloV w.heap.size mb q0 q1 1, cloV w.heap.size mb q0 q1 2, cloV w.heap.size mb q0 q1 3, cloV w.heap.size mb q0 q1 4, cloV w.heap.size mb q0 q1 5]
theorem okItem_bel {B : Nat} {W W' : World} {x : ItemH} (h : okItem B (fun _ => False) W x) (hb : Below W.heap.size W W') : okItem B (fun _ => False) W' x := SlT.bel h hb
theorem Pl13.belw {g : GramH} {wA : Option Addr} {wC nw mb nm : Nat} {tm : SMap} {w W W' : World} {i n0 q0 q1 q2 : Nat} {is : List ItemH} {v : Value} (h : Pl13 g wA wC nw mb nm tm w i n0 q0 q1 q2 W is v) (hb : Below W.heap.size W W') : Pl13 g wA wC nw mb nm tm w i n0 q0 q1 q2 W' is v :=
 ⟨h.tg.belw hb, h.it.bel hb, h.own.bel hb, fun x hx => okItem_bel (h.ok x hx) hb, h.bi.bel hb, h.b0.bel hb, h.bs.bel hb⟩
theorem Tg13.in_ {g : GramH} {wA : Option Addr} {wC nw mb nm : Nat} {tm : SMap} {w W : World} (h : Tg13 g wA wC nw mb nm tm w W) : TagIn w tm mb W := by
 obtain ⟨n, cnt, _, hM⟩ := h.map
 exact ⟨fun b hb => h.bel.block b hb, h.bel.size, n, cnt, hM⟩
theorem Pl13.at_ {g : GramH} {wA : Option Addr} {wC nw mb nm : Nat} {tm : SMap} {w W : World} {i n0 q0 q1 q2 : Nat} {is : List ItemH} {v : Value} (h : Pl13 g wA wC nw mb nm tm w i n0 q0 q1 q2 W is v) {k : Nat} (hk : k < 6) : W.cell? ⟨q2, k, none⟩ = some (cloV w.heap.size mb q0 q1 k) := by
 refine h.bs.cell k ?_
 match k, hk with
 | 0, _ => rfl
 | 1, _ => rfl
 | 2, _ => rfl
 | 3, _ => rfl
 | 4, _ => rfl
 | 5, _ => rfl
theorem clos (g : GramH) (wA : Option Addr) (wC : Nat) (words : List ByteArray) (mb nm : Nat) (tm : SMap) (w : World) (i n0 q0 q1 q2 : Nat) (W : World) (is : List ItemH) (v : Value) (k : Nat) (u : Str) (pre : List ItemM) (hk : k < 6) (h : Pl13 g wA wC words.length mb nm tm w i n0 q0 q1 q2 W is v)
  (hC : TagC w g wA wC words tm) (hu : words[i]? = some u) (hw : words.length ≤ 16) (he : g.entries.length ≤ 512) (hc : g.cats.length ≤ 32) (his : is.map ItemH.m = pre ++ piecesTo tm g words i u k) (hpre : pre.length = n0) :
  Calls Tryz.prog (cloF k) (cloC w.heap.size mb q0 q1 k) W fun e W' => AddsPost w (piece tm g words i u k) e W' ∧ Below W.heap.size W W' := by
 have hi : i < words.length := (List.getElem?_eq_some_iff.1 hu).1
 match k, hk with
 | 0, _ =>
  refine (of35 g mb wA wC words.length i (mb + 1) q0 W h.tg.tbx h.bi).mono fun e W' ⟨h1, h2⟩ => ⟨adds_term hC (h.tg.in_.bel h2) h1 (by omega) (by omega) hw, h2⟩
 | 1, _ =>
  refine (of37 g mb wA wC words.length i (mb + 1) q0 W h.tg.tbx h.bi).mono fun e W' ⟨h1, h2⟩ => ⟨adds_ent hC (h.tg.in_.bel h2) h1 hu hw he, h2⟩
 | 2, _ =>
  obtain ⟨A, c, rfl, hsl⟩ := h.own.sl
  refine (of39 g mb wA wC words.length i A is.length c n0 (w.heap.size + 2) q1 (mb + 1) q0 (w.heap.size + 1) W h.it h.b0 h.tg.tbx h.bi h.tg.wbx hw).mono fun e W' ⟨h1, h2⟩ => ⟨?_, h2⟩
  have hl : is.length = n0 + (foundM tm g words i u).length := by
   have := congrArg List.length his
   rw [List.length_map, List.length_append, hpre] at this
   rw [this]
   simp [piecesTo, piece, foundM]
  by_cases hf : foundM tm g words i u = []
  ·rw [hf] at hl
   rw [if_pos (by simpa using hl)] at h1
   have := adds_unk hC (h.tg.in_.bel h2) h1 hu hw hc
   show AddsPost w (if foundM tm g words i u = [] then unkL g.cats u i else []) e W'
   rw [if_pos hf]
   exact this
  ·have hne : (foundM tm g words i u).length ≠ 0 := fun h0 => hf (List.length_eq_zero_iff.1 h0)
   rw [if_neg (by omega)] at h1
   have := adds_term hC (h.tg.in_.bel h2) h1 (by omega) (by omega) hw
   rw [termM_over] at this
   show AddsPost w (if foundM tm g words i u = [] then unkL g.cats u i else []) e W'
   rw [if_neg hf]
   exact this
 | 3, _ =>
  refine (of41 g mb wA wC words.length i (mb + 1) q0 W h.tg.tbx h.bi).mono fun e W' ⟨h1, h2⟩ => ⟨adds_term hC (h.tg.in_.bel h2) h1 (by omega) (by omega) hw, h2⟩
 | 4, _ =>
  refine (of42 g mb wA wC words.length i (mb + 1) q0 W h.tg.tbx h.bi).mono fun e W' ⟨h1, h2⟩ => ⟨adds_term hC (h.tg.in_.bel h2) h1 (by omega) (by omega) hw, h2⟩
 | 5, _ =>
  refine (of43 g mb wA wC words.length i (mb + 1) q0 W h.tg.tbx h.bi).mono fun e W' ⟨h1, h2⟩ => ⟨adds_term hC (h.tg.in_.bel h2) h1 (by omega) (by omega) hw, h2⟩
theorem Pl13.next {g : GramH} {wA : Option Addr} {wC nw mb nm : Nat} {tm : SMap} {w W W2 : World} {i n0 q0 q1 q2 : Nat} {is l : List ItemH} {v v' : Value} (h : Pl13 g wA wC nw mb nm tm w i n0 q0 q1 q2 W is v) (hk : KeptBut (fun b => v.ownBlock = some b) W W2) (ho : OwnL itemC 6 68 W2 w.heap.size v' l) (hok : ∀ x ∈ l, okItem w.heap.size (fun _ => False) W2 x) :
  Pl13 g wA wC nw mb nm tm w i n0 q0 q1 q2 (W2.setCell ⟨w.heap.size + 2, 0, none⟩ v') l v' := by
 have hne : ∀ {b : Nat} {ty : TypeId} {cs : Array Value}, Blk W b ty cs → ty ≠ 68 → ¬ v.ownBlock = some b := fun hB hty hv => by
  obtain ⟨_, _, cur, e⟩ := h.own.blk hv
  rw [hB.at_] at e
  simp at e
  exact hty e.2
 have hit2 : Blk W2 (w.heap.size + 2) 46 #[v] := Blk.but h.it hk (hne h.it (by decide))
 have far : ∀ {b : Nat} {ty : TypeId} {cs : Array Value}, Blk W b ty cs → ty ≠ 68 → ty ≠ 46 → Blk (W2.setCell ⟨w.heap.size + 2, 0, none⟩ v') b ty cs := fun hB h1 h2 =>
  (Blk.but hB hk (hne hB h1)).far _ _ (by
   dsimp only
   rintro rfl
   have e1 := hB.at_
   rw [h.it.at_] at e1
   simp at e1
   exact h2 e1.2.symm)
 have hO : OwnL itemC 6 68 (W2.setCell ⟨w.heap.size + 2, 0, none⟩ v') w.heap.size v' l := ho.keep fun b hb => Below.heap_setCell _ _ _ _ (fun e => by
  obtain ⟨_, _, cur, e1⟩ := ho.blk hb
  dsimp only at e
  rw [e, hit2.at_] at e1
  simp at e1)
 have hmapk : ∃ n cnt, n ≤ nm ∧ MapG Tryz.prog 9 litS okS (W2.setCell ⟨w.heap.size + 2, 0, none⟩ v') mb n (smV tm) cnt := by
  obtain ⟨n, cnt, hn, hM⟩ := h.tg.map
  refine ⟨n, cnt, hn, hM.heap ?_⟩
  have h1 : ¬ v.ownBlock = some mb := fun e => by
   obtain ⟨_, _, cur, e⟩ := h.own.blk e
   obtain ⟨D, ⟨es, clock, hb, _⟩, _⟩ := hM
   rw [hb] at e
   cases e
  have hl := h.tg.low
  rw [Below.heap_setCell _ _ _ _ (by dsimp only; omega)]
  exact hk.keep mb hM.lt h1
 refine ⟨⟨far h.tg.wbx (by decide) (by decide), far h.tg.tbx (by decide) (by decide), hmapk, (h.tg.bel.trans (hk.toBelow h.tg.bel.size fun b hb => (h.own.blk hb).1)).setCell (by dsimp only; omega) _, h.tg.low⟩, hit2.set 0 _ rfl, hO, fun x hx => ?_, far h.bi (by decide) (by decide), far h.b0 (by decide) (by decide), far h.bs (by decide) (by decide)⟩
 refine (okItem_ok w.heap.size).other (hok x hx) (by simp [World.setCell]) fun b hb hd => ?_
 refine Below.heap_setCell _ _ _ _ (fun e => ?_)
 dsimp only at e
 rcases hd with hd | ⟨cs, fz, hd⟩
 ·omega
 ·rw [e, hit2.at_] at hd
  simp at hd
end Go.Proofs.YtkfdafeonhnloaaGreatDoor
