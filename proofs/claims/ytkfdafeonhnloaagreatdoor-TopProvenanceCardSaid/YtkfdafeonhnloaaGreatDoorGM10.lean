/-
  types.typed.
  types.circular: the closure leads.
  types.circular, plainly: a set of categories each of which leads into the set.
-/
import Derived.Test.YtkfdafeonhnloaaGreatDoorA16
import Derived.Laws.EntriesVeiled
namespace Go.Mine.C
structure GramS (g : GramH) : Prop where
 start : okS g.start
 cats : ∀ c ∈ g.cats, okS c
 ecat : ∀ x ∈ g.entries, okS x.cat
 rcat : ∀ x ∈ g.rules, okS x.cat
 pcat : ∀ x ∈ g.rules, ∀ p ∈ x.parts, okS p.cat
def typedB (g : GramH) : Bool := freeB g.name && (decide (0 < g.cats.length) && (g.cats.all freeB && (catB g.cats g.start && (g.entries.all (entB g.cats) && g.rules.all (ruleB g.cats)))))
end Go.Mine.C
namespace Go.Proofs.YtkfdafeonhnloaaGreatDoor
open Go.RowKit Go.Shelf Go.Mine Go.Mine.C
attribute [local go_sem] Oper.semAt_some
theorem e126 : ∀ args w, (callFunc 126 args).run Tryz.prog w = .ok (.enter 126 args) w := enters_of Tryz.func126 (by kernel_rfl) rfl
theorem e131 : ∀ args w, (callFunc 131 args).run Tryz.prog w = .ok (.enter 131 args) w := enters_of Tryz.func131 (by kernel_rfl) rfl
theorem entP (w : World) (hE : Env w) (cats : List ByteArray) (q : Nat) (hC : CatBox w q cats) (l : List EntH) (hl : ∀ x ∈ l, okS x.cat) (ho : ∀ x ∈ l, EntOk w x) : Pred Tryz.prog entV 126 #[.pointer (some ⟨q, 0, none⟩)] (entB cats) l w := fun x hx w' hb => by
 have := entry126 x q cats w' ((ho x hx).bel hb) (hl x hx) (hC.bel hb) (hE.bel hb)
 simpa using this
theorem ruleP (w : World) (hE : Env w) (cats : List ByteArray) (q p : Nat) (hC : CatBox w q cats) (hP : PartBox w p cats) (l : List RuleH) (hl : ∀ x ∈ l, okS x.cat) (hlp : ∀ x ∈ l, ∀ y ∈ x.parts, okS y.cat) (ho : ∀ x ∈ l, RuleOkW w x) : Pred Tryz.prog ruleV 131 #[.pointer (some ⟨q, 0, none⟩), .pointer (some ⟨p, 0, none⟩)] (ruleB cats) l w := fun x hx w' hb => by
 have := rule131 x q p cats w' ((ho x hx).bel hb) (hl x hx) (hlp x hx) (hC.bel hb) (hP.bel hb) (hE.bel hb)
 simpa using this
set_option maxRecDepth 100000 in
set_option maxHeartbeats 8000000 in
theorem typed94 (g : GramH) (ib : Nat) (w : World) (hG : GramOk w g) (hs : GramS g) (hI : IdxIn w ib g.cats) (hE : Env w) :
  Calls Tryz.prog 94 #[gramV g, .func (.func 93) #[] #[.pointer (some ⟨ib, 0, none⟩)]] w fun e w' => e = .returned (.bool (typedB g)) ∧ Below w.heap.size w w' := by
 have HR := hide (show typedB g = (freeB g.name && (decide (0 < g.cats.length) && (g.cats.all freeB && (catB g.cats g.start && (g.entries.all (entB g.cats) && g.rules.all (ruleB g.cats)))))) from rfl)
 generalize typedB g = R at *
 have hcl := hG.cats.le
 have hcm := hG.cats.max
 have hel := hG.entries.le
 have hem := hG.entries.max
 have hrl := hG.rules.le
 have hrm := hG.rules.max
 obtain ⟨w4, hw4⟩ : ∃ y, y = (((w.alloc (.cells #[.string g.name, .slice g.cA g.cats.length g.cC, .string g.start, .int .i64 g.startNo, .slice g.eA g.entries.length g.eC, .slice g.rA g.rules.length g.rC] 26)).alloc (.cells #[.func (.func 93) #[] #[.pointer (some ⟨ib, 0, none⟩)]] 178)).alloc (.cells #[.func (.func 125) #[] #[.pointer (some ⟨w.heap.size + 1, 0, none⟩)]] 87)).alloc (.cells #[.func (.func 130) #[] #[.pointer (some ⟨w.heap.size + 2, 0, none⟩)]] 212) := ⟨_, rfl⟩
 have hK : Below w.heap.size w w4 := by rw [hw4]; exact kalloc (kalloc (kalloc (kalloc (Below.refl _ _) _) _) _) _
 have hz4 : w4.heap.size = w.heap.size + 4 := by rw [hw4]; simp
 have B0 : Blk w4 w.heap.size 26 #[.string g.name, .slice g.cA g.cats.length g.cC, .string g.start, .int .i64 g.startNo, .slice g.eA g.entries.length g.eC, .slice g.rA g.rules.length g.rC] := by rw [hw4]; exact (((Blk.new w _ 26).alloc _).alloc _).alloc _
 have C1 : CatIn w4 (w.heap.size + 1) g.cats := ⟨ib, by rw [hw4]; exact ((Blk.new1 w _ _ 178).alloc _).alloc _, hI.bel hK⟩
 have C2 : CatBox w4 (w.heap.size + 2) g.cats := ⟨w.heap.size + 1, by rw [hw4]; exact (Blk.new2 w _ _ _ 87).alloc _, C1⟩
 have C3 : PartBox w4 (w.heap.size + 3) g.cats := ⟨w.heap.size + 2, by rw [hw4]; exact Blk.new3 w _ _ _ _ 212, C2⟩
 have K1 := hide (free127 g.name w4 (hE.bel hK))
 have HG := hide (hG.bel hK)
 have HE := hide (hE.bel hK)
 have HB := hide B0
 have H2 := hide C2
 have H3 := hide C3
 have HK := hide hK
 simp only [gramV]
 clear hG hI hE hK B0 C1 C2 C3
 go_enter Tryz.func94, Tryz.ntmps94
 go_wp2_with fail
 rw [hw4] at K1
 refine K1.out.mono ?_
 rw [← hw4]
 rintro e w5 ⟨rfl, hb⟩
 replace HG := hide (HG.out.bel hb)
 replace HE := hide (HE.out.bel hb)
 replace HB := hide (HB.out.bel hb)
 replace H2 := hide (H2.out.bel hb)
 replace H3 := hide (H3.out.bel hb)
 replace HK := hide (kcall HK.out hb)
 clear hb K1 hw4 hz4
 generalize freeB g.name = p1 at *
 cases p1
 ·go_wp2
  go_ret
  exact ⟨ret_bool HR.out.symm, HK.out⟩
 by_cases h0 : g.cats.length = 0
 ·have g0 : decide ((0 : Int) < g.cats.length) = false := decide_eq_false (by omega)
  rw [decide_eq_false (show ¬ 0 < g.cats.length by omega)] at HR
  have c1 := HB.out.cell (v := .slice g.cA g.cats.length g.cC) 1 rfl
  have cl := HB.out.lt
  go_wp2
  go_ret
  exact ⟨ret_bool HR.out.symm, HK.out⟩
 have hpos : 0 < g.cats.length := by omega
 have g0 : decide ((0 : Int) < g.cats.length) = true := decide_eq_true (by omega)
 rw [decide_eq_true hpos] at HR
 have c1 := HB.out.cell (v := .slice g.cA g.cats.length g.cC) 1 rfl
 have cl := HB.out.lt
 have hbq := kalloc (Below.refl w5.heap.size w5) (.cells #[.slice g.cA g.cats.length g.cC] 22)
 have K2 := hide (all129 127 #[] e127 freeB g.cA g.cC g.cats w5.heap.size _ (HG.out.cats.bel hbq) (Blk.new w5 #[.slice g.cA g.cats.length g.cC] 22) (freeP _ (HE.out.bel hbq) _))
 have HQ := hide hbq
 clear hbq
 go_wp2_with fail
 refine K2.out.mono ?_
 rintro e w6 ⟨rfl, hb⟩
 have hb := kcall HQ.out hb
 replace HG := hide (HG.out.bel hb)
 replace HE := hide (HE.out.bel hb)
 replace HB := hide (HB.out.bel hb)
 replace H2 := hide (H2.out.bel hb)
 replace H3 := hide (H3.out.bel hb)
 replace HK := hide (kcall HK.out hb)
 clear hb K2 HQ c1 cl g0 h0 hpos
 generalize g.cats.all freeB = p2 at *
 cases p2
 ·go_wp2
  go_ret
  exact ⟨ret_bool HR.out.symm, HK.out⟩
 obtain ⟨q, hq1, hq2⟩ := H2.out.ex
 have d0 := hq1.cell (v := .func (.func 125) #[] #[.pointer (some ⟨q, 0, none⟩)]) 0 rfl
 have dl := hq1.lt
 have K3 := hide (cat125 g.start hs.start q g.cats w6 hq2)
 have c2 := HB.out.cell (v := .string g.start) 2 rfl
 have cl := HB.out.lt
 clear hq1 hq2
 go_wp2_with fail
 refine K3.out.mono ?_
 rintro e w7 ⟨rfl, rfl⟩
 generalize catB g.cats g.start = p3 at *
 clear d0 dl K3 c2
 cases p3
 ·go_wp2
  go_ret
  exact ⟨ret_bool HR.out.symm, HK.out⟩
 have c4 := HB.out.cell (v := .slice g.eA g.entries.length g.eC) 4 rfl
 have hbq := kalloc (Below.refl w6.heap.size w6) (.cells #[.slice g.eA g.entries.length g.eC] 23)
 have K4 := hide (all133 126 #[.pointer (some ⟨w.heap.size + 2, 0, none⟩)] e126 (entB g.cats) g.eA g.eC g.entries w6.heap.size _ (HG.out.entries.bel hbq) (Blk.new w6 #[.slice g.eA g.entries.length g.eC] 23) (entP _ (HE.out.bel hbq) g.cats _ (H2.out.bel hbq) _ hs.ecat (fun x hx => (HG.out.entry x hx).bel hbq)))
 have HQ := hide hbq
 clear hbq
 go_wp2_with fail
 refine K4.out.mono ?_
 rintro e w8 ⟨rfl, hb⟩
 have hb := kcall HQ.out hb
 replace HG := hide (HG.out.bel hb)
 replace HE := hide (HE.out.bel hb)
 replace HB := hide (HB.out.bel hb)
 replace H2 := hide (H2.out.bel hb)
 replace H3 := hide (H3.out.bel hb)
 replace HK := hide (kcall HK.out hb)
 clear hb K4 HQ c4 cl
 generalize g.entries.all (entB g.cats) = p4 at *
 cases p4
 ·go_wp2
  go_ret
  exact ⟨ret_bool HR.out.symm, HK.out⟩
 have c5 := HB.out.cell (v := .slice g.rA g.rules.length g.rC) 5 rfl
 have cl := HB.out.lt
 have hbq := kalloc (Below.refl w8.heap.size w8) (.cells #[.slice g.rA g.rules.length g.rC] 24)
 have K5 := hide (all134 131 #[.pointer (some ⟨w.heap.size + 2, 0, none⟩), .pointer (some ⟨w.heap.size + 3, 0, none⟩)] e131 (ruleB g.cats) g.rA g.rC g.rules w8.heap.size _ (HG.out.rules.bel hbq) (Blk.new w8 #[.slice g.rA g.rules.length g.rC] 24) (ruleP _ (HE.out.bel hbq) g.cats _ _ (H2.out.bel hbq) (H3.out.bel hbq) _ hs.rcat hs.pcat (fun x hx => (HG.out.rule x hx).bel hbq)))
 have HQ := hide hbq
 clear hbq
 go_wp2_with fail
 refine K5.out.mono ?_
 rintro e w9 ⟨rfl, hb⟩
 have hb := kcall HQ.out hb
 replace HK := hide (kcall HK.out hb)
 clear hb K5 HQ c5 cl
 generalize g.rules.all (ruleB g.cats) = p5 at *
 go_wp2
 go_ret
 exact ⟨ret_bool HR.out.symm, HK.out⟩
end Go.Proofs.YtkfdafeonhnloaaGreatDoor
namespace Go.Mine.C
open Go.RowKit Go.Mine
def soleX (L : Str → Bool) : List PartM → Bool
 | [p] => decide (p.text.size = 0) && L p.cat
 | _ => false
def leadX (L : Str → Bool) (c : Str) (x : RuleH) : Bool := decide (x.cat = c) && soleX L x.parts
def leftM (L : Str → Bool) (s : Str) : Option Value := if L s = true then some (.bool true) else none
theorem str_beq {a b : Str} (h : ¬ a = b) : (a.toList == b.toList) = false := by
 rw [Lib.toList_data, Lib.toList_data, beq_eq_false_iff_ne]
 intro e
 have : a.data = b.data := Array.toList_inj.1 e
 exact h (by cases a; cases b; simp_all)
end Go.Mine.C
namespace Go.Proofs.YtkfdafeonhnloaaGreatDoor
open Go.RowKit Go.Shelf Go.Mine Go.Mine.C
attribute [local go_sem] Oper.semAt_some
structure LeftIn (w : World) (p : Nat) (L : Str → Bool) : Prop where
 ex : ∃ b n cnt, Blk w p 217 #[.map (some b)] ∧ MapG Tryz.prog 9 litS okS w b n (leftM L) cnt
theorem LeftIn.bel {w w' : World} {p : Nat} {L : Str → Bool} (h : LeftIn w p L) (hb : Below w.heap.size w w') : LeftIn w' p L := by
 obtain ⟨b, n, cnt, h1, h2⟩ := h.ex
 exact ⟨b, n, cnt, h1.bel hb, h2.bel hb⟩
set_option maxRecDepth 100000 in
set_option maxHeartbeats 8000000 in
theorem leads135 (x : RuleH) (c : Str) (L : Str → Bool) (q p : Nat) (w : World) (hx : RuleOkW w x) (hsp : ∀ y ∈ x.parts, okS y.cat) (hq : Blk w q 9 #[.string c]) (hL : LeftIn w p L) :
  Calls Tryz.prog 135 #[ruleV x, .pointer (some ⟨q, 0, none⟩), .pointer (some ⟨p, 0, none⟩)] w fun e w' => e = .returned (.bool (leadX L c x)) ∧ Below w.heap.size w w' := by
 obtain ⟨cat, catNo, pA, pC, parts, gA, gC, gives, cost⟩ := x
 obtain ⟨hxp, hxg⟩ := hx
 simp only [ruleV] at *
 have HR := hide (show leadX L c ⟨cat, catNo, pA, pC, parts, gA, gC, gives, cost⟩ = (decide (cat = c) && soleX L parts) from rfl)
 generalize leadX L c ⟨cat, catNo, pA, pC, parts, gA, gC, gives, cost⟩ = R at *
 obtain ⟨b, n, cnt, h1, h2⟩ := hL.ex
 have hpl := hxp.le
 have hpm := hxp.max
 have k0 := kalloc (Below.refl w.heap.size w) (.cells #[.string cat, .int .i64 catNo, .slice pA parts.length pC, .slice gA gives.length gC, .int .i64 cost] 111)
 have HK := hide k0.drew
 have q0 := hq.cell (v := .string c) 0 rfl
 have ql := hq.lt
 have p0 := h1.cell (v := .map (some b)) 0 rfl
 have pl := h1.lt
 by_cases hc : cat = c
 ·subst hc
  rw [decide_eq_true rfl, Bool.true_and] at HR
  by_cases hone : parts.length = 1
  ·obtain ⟨y, rfl⟩ := List.length_eq_one_iff.1 hone
   obtain ⟨y', bb, off, hy, _, hA, hbw, c0, c1, c2⟩ := part_at hxp (k := 0) (by simp)
   obtain rfl : y = y' := by simpa using hy
   rw [Nat.zero_mul, Nat.add_zero] at c0 c1 c2
   have hsy := hsp y (by simp)
   obtain ⟨ycat, yno, ytext⟩ := y
   dsimp only at *
   subst hA
   replace HR := hide (show R = (decide (ytext.size = 0) && L ycat) from HR.out)
   by_cases h0 : ytext.size = 0
   ·obtain rfl := str_empty h0
    have hl := ((h2.bel k0.drew).look keyS Tryz.underlying217 (Tryz.zeroValue4 _) hsy)
    have el : (leftM L ycat).getD (.bool false) = .bool (L ycat) := by unfold leftM; cases L ycat <;> rfl
    rw [el] at hl
    simp only [List.length_cons, List.length_nil, Nat.zero_add] at hl
    rw [decide_eq_true h0, Bool.true_and] at HR
    generalize L ycat = r at *
    clear h1 h2 hq hL hxp hxg hy k0 h0 el hsp hsy hone
    go_enter Tryz.func135, Tryz.ntmps135
    go_wp2_with fail
    refine wp_still_all (by kernel_rfl) (by kernel_rfl) ?_
    repeat (first | ((with_reducible refine wpStill_step (fun K hK => ?_)); go_simp; (try go_bits); (with_reducible refine hK _ ?_); clear hK K) | ((with_reducible refine wpStill_step (fun K hK => ?_)); go_simp; rw [if_neg (by simp [undef])]; (with_reducible refine hK _ ?_); clear hK K))
    (with_reducible refine wpStill_nil ?_)
    go_wp2
    go_ret
    exact ⟨ret_bool HR.out.symm, HK.out⟩
   ·have e1 := str_ne h0
    rw [decide_eq_false h0] at HR
    clear h1 h2 hq hL hxp hxg hy k0 h0 hsp hsy hone
    go_enter Tryz.func135, Tryz.ntmps135
    go_wp2_with fail
    refine wp_still_all (by kernel_rfl) (by kernel_rfl) ?_
    repeat (first | ((with_reducible refine wpStill_step (fun K hK => ?_)); go_simp; (try go_bits); (with_reducible refine hK _ ?_); clear hK K) | ((with_reducible refine wpStill_step (fun K hK => ?_)); go_simp; rw [if_neg (by simp [undef])]; (with_reducible refine hK _ ?_); clear hK K))
    (with_reducible refine wpStill_nil ?_)
    go_wp2
    go_ret
    exact ⟨ret_bool HR.out.symm, HK.out⟩
  ·have hm : soleX L parts = false := by
    match parts, hone with
    | [], _ => rfl
    | [_], h => simp at h
    | _ :: _ :: _, _ => rfl
   have H := hide (HR.out.trans hm)
   have g1 : ((parts.length : Int) == 1) = false := by simp; omega
   clear HR hm h1 h2 hq hL hxp hxg k0 hsp
   go_enter Tryz.func135, Tryz.ntmps135
   go_wp2_with fail
   refine wp_still_all (by kernel_rfl) (by kernel_rfl) ?_
   repeat (first | ((with_reducible refine wpStill_step (fun K hK => ?_)); go_simp; (try go_bits); (with_reducible refine hK _ ?_); clear hK K) | ((with_reducible refine wpStill_step (fun K hK => ?_)); go_simp; rw [if_neg (by simp [undef])]; (with_reducible refine hK _ ?_); clear hK K))
   (with_reducible refine wpStill_nil ?_)
   go_wp2
   go_ret
   exact ⟨ret_bool H.out.symm, HK.out⟩
 ·have gc := str_beq hc
  rw [decide_eq_false hc, Bool.false_and] at HR
  clear h1 h2 hq hL hxp hxg k0 hsp hc
  go_enter Tryz.func135, Tryz.ntmps135
  go_wp2_with fail
  refine wp_still_all (by kernel_rfl) (by kernel_rfl) ?_
  repeat (first | ((with_reducible refine wpStill_step (fun K hK => ?_)); go_simp; (try go_bits); (with_reducible refine hK _ ?_); clear hK K) | ((with_reducible refine wpStill_step (fun K hK => ?_)); go_simp; rw [if_neg (by simp [undef])]; (with_reducible refine hK _ ?_); clear hK K))
  (with_reducible refine wpStill_nil ?_)
  go_wp2
  go_ret
  exact ⟨ret_bool HR.out.symm, HK.out⟩
end Go.Proofs.YtkfdafeonhnloaaGreatDoor
namespace Go.Mine.C
open Go.RowKit Go.Mine Go.Maps
def leadB (rules : List RuleH) (L : Str → Bool) (c : Str) : Bool := rules.any (leadX L c)
def Circ (g : GramH) : Prop := ∃ S : Str → Bool, (∃ c, S c = true) ∧ ∀ c, S c = true → c ∈ g.cats ∧ leadB g.rules S c = true
noncomputable def circB (g : GramH) : Bool := @decide (Circ g) (Classical.propDecidable _)
theorem soleX_mono {L L' : Str → Bool} (h : ∀ s, L s = true → L' s = true) : ∀ {ps : List PartM}, soleX L ps = true → soleX L' ps = true
 | [], hs => by cases hs
 | [p], hs => by
  simp only [soleX, Bool.and_eq_true] at hs ⊢
  exact ⟨hs.1, h _ hs.2⟩
 | _ :: _ :: _, hs => by cases hs
theorem leadB_mono {rules : List RuleH} {L L' : Str → Bool} (h : ∀ s, L s = true → L' s = true) {c : Str} (hl : leadB rules L c = true) : leadB rules L' c = true := by
 unfold leadB at hl ⊢
 rw [List.any_eq_true] at hl ⊢
 obtain ⟨x, hx, hl⟩ := hl
 refine ⟨x, hx, ?_⟩
 unfold leadX at hl ⊢
 rw [Bool.and_eq_true] at hl ⊢
 exact ⟨hl.1, soleX_mono h hl.2⟩
def Holds (g : GramH) (L : Str → Bool) : Prop := (∀ s, L s = true → s ∈ g.cats) ∧ ∀ S : Str → Bool, (∀ c, S c = true → c ∈ g.cats ∧ leadB g.rules S c = true) → ∀ c, S c = true → L c = true
def Stab (g : GramH) (L : Str → Bool) : Prop := ∀ c, L c = true → leadB g.rules L c = true
theorem circ_iff {g : GramH} {L : Str → Bool} (h : Holds g L) (hs : Stab g L) : Circ g ↔ ∃ c, L c = true := by
 constructor
 ·rintro ⟨S, ⟨c, hc⟩, hS⟩
  exact ⟨c, h.2 S hS c hc⟩
 ·rintro ⟨c, hc⟩
  exact ⟨L, ⟨c, hc⟩, fun s hl => ⟨h.1 s hl, hs s hl⟩⟩
def strike (L : Str → Bool) (c : Str) : Str → Bool := fun s => L s && !decide (s = c)
theorem Holds.strike {g : GramH} {L : Str → Bool} (h : Holds g L) {c : Str} (hc : leadB g.rules L c = false) : Holds g (strike L c) := by
 refine ⟨fun s hs => h.1 s (by unfold C.strike at hs; rw [Bool.and_eq_true] at hs; exact hs.1), fun S hS s hs => ?_⟩
 unfold C.strike
 rw [h.2 S hS s hs, Bool.true_and, Bool.not_eq_true', decide_eq_false_iff_not]
 rintro rfl
 have := leadB_mono (L' := L) (fun s hs => h.2 S hS s hs) (hS s hs).2
 rw [hc] at this; cases this
def Rep (D : DataW Value) (L : Str → Bool) : Prop := ∀ s, okS s → Maps.has D (litS s) = L s ∧ ∀ z, D.atKey (litS s) (.held z) = .held ((leftM L s).getD z)
theorem litS_inj {a b : Str} (e : litS a = litS b) : a = b := by
 unfold litS at e
 injection e with e
 have : a.data = b.data := Array.toList_inj.1 e
 cases a; cases b; simp_all
theorem Rep.del {D : DataW Value} {L : Str → Bool} (h : Rep D L) (c : Str) : Rep (D.del (litS c)) (strike L c) := fun s hs => by
 by_cases e : s = c
 ·subst e
  have h1 : strike L s s = false := by simp [strike]
  rw [h1]
  refine ⟨Maps.has_del_same, fun z => ?_⟩
  rw [show leftM (strike L s) s = none by unfold leftM; rw [h1]; rfl]
  exact Maps.atKey_del_same _
 ·have hne : litS s ≠ litS c := fun h => e (litS_inj h)
  have h1 : strike L c s = L s := by simp [strike, e]
  rw [h1, show leftM (strike L c) s = leftM L s by unfold leftM; rw [h1]]
  exact ⟨(Maps.has_del_other hne).trans (h s hs).1, fun z => (Maps.atKey_del_other hne _).trans ((h s hs).2 z)⟩
structure Rnd (g : GramH) (L0 L : Str → Bool) (cnt0 cnt : Nat) (left : Str → Bool) : Prop where
 holds : Holds g L
 sub : ∀ s, L s = true → L0 s = true
 stab : Stab g L0 → L = L0
 prog : cnt < cnt0 ∨ (cnt = cnt0 ∧ L = L0 ∧ ∀ s, L0 s = true → left s = false → leadB g.rules L0 s = true)
theorem Rnd.start {g : GramH} {L0 : Str → Bool} (h : Holds g L0) {cnt0 : Nat} {left : Str → Bool} (hl : ∀ s, L0 s = true → left s = true) : Rnd g L0 L0 cnt0 cnt0 left :=
 ⟨h, fun _ h => h, fun _ => rfl, .inr ⟨rfl, rfl, fun s hs hf => by rw [hl s hs] at hf; cases hf⟩⟩
theorem Rnd.keep {g : GramH} {L0 L : Str → Bool} {cnt0 cnt : Nat} {left left' : Str → Bool} (h : Rnd g L0 L cnt0 cnt left) {c : Str} (hc : leadB g.rules L c = true) (hl : ∀ s, left' s = (left s && !decide (s = c))) : Rnd g L0 L cnt0 cnt left' :=
 ⟨h.holds, h.sub, h.stab, by
  rcases h.prog with h1 | ⟨h1, h2, h3⟩
  ·exact .inl h1
  ·refine .inr ⟨h1, h2, fun s hs hf => ?_⟩
   rw [hl s] at hf
   by_cases e : s = c
   ·subst e; rw [← h2]; exact hc
   ·exact h3 s hs (by simpa [e] using hf)⟩
theorem Rnd.drop {g : GramH} {L0 L : Str → Bool} {cnt0 cnt cnt' : Nat} {left left' : Str → Bool} (h : Rnd g L0 L cnt0 cnt left) {c : Str} (hc : leadB g.rules L c = false) (hL : L c = true) (hcnt : cnt' + 1 = cnt) : Rnd g L0 (strike L c) cnt0 cnt' left' :=
 ⟨h.holds.strike hc, fun s hs => h.sub s (by unfold C.strike at hs; rw [Bool.and_eq_true] at hs; exact hs.1), (fun hst => by
  have e := h.stab hst
  have := hst c (h.sub c hL)
  rw [e] at hc
  rw [hc] at this
  exact absurd this (by simp)), .inl (by rcases h.prog with h1 | ⟨h1, _, _⟩ <;> omega)⟩
theorem Rnd.done {g : GramH} {L0 L : Str → Bool} {cnt0 cnt : Nat} {left : Str → Bool} (h : Rnd g L0 L cnt0 cnt left) (hl : ∀ s, left s = false) {k N : Nat} (h0 : Stab g L0 ∨ cnt0 + k ≤ N) : Stab g L ∨ cnt + (k + 1) ≤ N := by
 rcases h0 with h0 | h0
 ·rw [h.stab h0]; exact .inl h0
 ·rcases h.prog with h1 | ⟨h1, h2, h3⟩
  ·exact .inr (by omega)
  ·rw [h2]; exact .inl fun s hs => h3 s hs (hl s)
end Go.Mine.C
