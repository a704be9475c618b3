/-
 types.Check.
-/
import Derived.Test.YtkfdafeonhnloaaGreatDoorA25
namespace Go.Mine.C
open Go.RowKit Go.Mine
def entsB (cats : List Str) (l : List EntH) : Bool := l.all fun x => idxF cats x.cat == x.catNo
def rulesB (cats : List Str) (l : List RuleH) : Bool := l.all fun r => (idxF cats r.cat == r.catNo) && sameParts (r.parts.map (resP cats)) r.parts
noncomputable def okB (g : GramH) : Bool := preG g && ((idxF g.cats g.start == g.startNo) && (entsB g.cats g.entries && rulesB g.cats g.rules))
theorem sameEnts_res (cats : List Str) : ∀ l : List EntH, sameEnts (l.map (resE cats)) l = entsB cats l
 | [] => rfl
 | x :: l => by
  rw [List.map_cons, sameEnts, sameEnts_res cats l]
  rfl
theorem sameRules_res (cats : List Str) : ∀ (l l' : List RuleH), l'.map RuleH.m = l.map (resM cats) → sameRules l' l = rulesB cats l
 | [], [], _ => rfl
 | [], _ :: _, h => by simp at h
 | _ :: _, [], h => by simp at h
 | x :: l, y :: l', h => by
  rw [List.map_cons, List.map_cons] at h
  injection h with h1 h2
  rw [sameRules, sameRules_res cats l l' h2]
  have e1 : y.catNo = idxF cats x.cat := congrArg RuleM.catNo h1
  have e2 : y.parts = x.parts.map (resP cats) := congrArg RuleM.parts h1
  simp only [sameRule, e1, e2, rulesB, List.all_cons]
end Go.Mine.C
namespace Go.Proofs.YtkfdafeonhnloaaGreatDoor
open Go.RowKit Go.Shelf Go.Mine Go.Mine.C
attribute [local go_sem] Oper.semAt_some
theorem resolve62 (g : GramH) (w : World) (hG : GramOk w g) (hs : GramS g) (hE : Env w) : Calls Tryz.prog 62 #[gramV g] w fun e w' => ResPost g w' e ∧ Below w.heap.size w w' := by
 cases h : limB g
 ·exact resolve62_lim g w h
 ·exact resolve62_rest g w hG hs hE h
def ChkPost (g : GramH) (e : Ending) : Prop := ∃ er : Int, e = .returned (.int .i64 er) ∧ (er = 0 ↔ okB g = true)
theorem chk_bad {g : GramH} {er : Int} (he : er ≠ 0) (h : okB g = false) : ChkPost g (.returned (.int .i64 er)) := ⟨er, rfl, by rw [h]; simp [he]⟩
set_option maxRecDepth 100000 in
set_option maxHeartbeats 4000000 in
theorem check31 (g : GramH) (w : World) (hG : GramOk w g) (hs : GramS g) (hE : Env w) : Calls Tryz.prog 31 #[gramV g] w fun e w' => ChkPost g e ∧ Below w.heap.size w w' := by
 have k0 := kalloc (Below.refl w.heap.size w) (.cells #[.string g.name, .slice g.cA g.cats.length g.cC, .string g.start, .int .i64 g.startNo, .slice g.eA g.entries.length g.eC, .slice g.rA g.rules.length g.rC] 26)
 have K := resolve62 g _ (hG.bel k0) hs (hE.bel k0)
 have B0 := Blk.new w #[.string g.name, .slice g.cA g.cats.length g.cC, .string g.start, .int .i64 g.startNo, .slice g.eA g.entries.length g.eC, .slice g.rA g.rules.length g.rC] 26
 have HG := hide hG
 have HK0 := hide k0
 simp only [gramV] at *
 replace K := hide K
 replace B0 := hide B0
 clear hG hs hE k0
 go_enter Tryz.func31, Tryz.ntmps31
 (refine wp_seq_k (fun K hK => ?_); replace hK := hide hK; go_wp2_with fail; refine hK.out _ _ ?_; clear hK K)
 refine wp_seq_k (fun KK hKK => ?_)
 replace hKK := hide hKK
 go_wp2_with fail
 refine K.out.mono ?_
 rintro e w1 ⟨⟨g', er, rfl, her, hres⟩, hb1⟩
 have k1 := kcall HK0.out hb1
 have hBB := B0.out.bel hb1
 have HR := hide (And.intro her hres)
 clear K B0 hb1 her hres HK0
 simp only [gramV]
 have hl := hBB.lt
 go_wp2_with fail
 refine hKK.out _ _ ?_
 clear hKK KK
 refine at_world (fun W => ∃ q, Blk W w.heap.size 26 #[.string g.name, .slice g.cA g.cats.length g.cC, .string g.start, .int .i64 g.startNo, .slice g.eA g.entries.length g.eC, .slice g.rA g.rules.length g.rC] ∧ q = w1.heap.size ∧
   Blk W q 26 #[.string g'.name, .slice g'.cA g'.cats.length g'.cC, .string g'.start, .int .i64 g'.startNo, .slice g'.eA g'.entries.length g'.eC, .slice g'.rA g'.rules.length g'.rC] ∧ Below w1.heap.size w1 W)
  ⟨w1.heap.size, hBB.alloc _, rfl, Blk.new w1 _ 26, kalloc (Below.refl _ _) _⟩ ?_
 rintro W ⟨q, b0, hq, b1, hbW⟩
 rw [← hq]
 have kW := kcall k1 hbW
 have HKW := hide kW
 clear hq hl hBB
 by_cases h0 : er = 0
 ·subst h0
  have hp := HR.out.1.1 rfl
  have hg := HR.out.2 hp
  have hG' := HG.out.bel kW
  have hen : g'.entries.length = g.entries.length := by rw [hg.entries, List.length_map]
  have hrn : g'.rules.length = g.rules.length := by have := congrArg List.length hg.rules; simpa using this
  have K1 := equalf63 g'.eA g.eA g'.eC g.eC g'.entries g.entries W (hg.sle.bel hbW) hG'.entries hen
  rw [hg.entries, sameEnts_res, List.length_map] at K1
  have K2 := fun (W' : World) (hb : Below W.heap.size W W') => equalf65 g'.rA g.rA g'.rC g.rC g'.rules g.rules W' ((hg.slr.bel hbW).bel hb) (hG'.rules.bel hb) hrn (fun x hx => (((hg.ruleOk x hx).bel hbW).bel hb)) (fun x hx => ((hG'.rule x hx).bel hb))
  rw [sameRules_res _ _ _ hg.rules, hrn] at K2
  rw [hg.start] at b1
  rw [hen, hrn] at b1
  have hok : okB g = ((idxF g.cats g.start == g.startNo) && (entsB g.cats g.entries && rulesB g.cats g.rules)) := by unfold okB; rw [hp, Bool.true_and]
  have HOK := hide hok
  replace K1 := hide K1
  replace K2 := hide K2
  have x3 := b0.cell (v := .int .i64 g.startNo) 3 rfl
  have x4 := b0.cell (v := .slice g.eA g.entries.length g.eC) 4 rfl
  have x5 := b0.cell (v := .slice g.rA g.rules.length g.rC) 5 rfl
  have xl := b0.lt
  have y3 := b1.cell (v := .int .i64 (idxF g.cats g.start)) 3 rfl
  have y4 := b1.cell (v := .slice g'.eA g.entries.length g'.eC) 4 rfl
  have y5 := b1.cell (v := .slice g'.rA g.rules.length g'.rC) 5 rfl
  have yl := b1.lt
  have B0 := hide b0
  have B1 := hide b1
  generalize entsB g.cats g.entries = p1 at *
  generalize rulesB g.cats g.rules = p2 at *
  clear HG HR hok hG' hg hp b0 b1 kW k1
  go_wp2_with fail
  refine K1.out.mono ?_
  rintro e w2 ⟨rfl, hb2⟩
  have HB2 := hide hb2
  have u3 := (B0.out.bel hb2).cell (v := .int .i64 g.startNo) 3 rfl
  have u5 := (B0.out.bel hb2).cell (v := .slice g.rA g.rules.length g.rC) 5 rfl
  have v3 := (B1.out.bel hb2).cell (v := .int .i64 (idxF g.cats g.start)) 3 rfl
  have v5 := (B1.out.bel hb2).cell (v := .slice g'.rA g.rules.length g'.rC) 5 rfl
  have vl := (B1.out.bel hb2).lt
  have ul := (B0.out.bel hb2).lt
  clear hb2 x3 x4 x5 xl y3 y4 y5 yl
  go_wp2_with fail
  refine (K2.out _ HB2.out).mono ?_
  rintro e w3 ⟨rfl, hb3⟩
  have HB3 := hide (kcall HB2.out hb3)
  have x3 := ((B0.out.bel HB2.out).bel hb3).cell (v := .int .i64 g.startNo) 3 rfl
  have y3 := ((B1.out.bel HB2.out).bel hb3).cell (v := .int .i64 (idxF g.cats g.start)) 3 rfl
  have yl := ((B1.out.bel HB2.out).bel hb3).lt
  have xl := ((B0.out.bel HB2.out).bel hb3).lt
  have HE := hide (kcall HKW.out HB3.out)
  clear hb3 u3 u5 v3 v5 vl ul K1 K2 B0 B1 HB2 HB3 HKW
  generalize idxF g.cats g.start = s0 at *
  by_cases hs0 : s0 = g.startNo
  ·have g1 : (s0 == g.startNo) = true := by simpa using hs0
   have g2 : (s0 != g.startNo) = false := by rw [bne, g1]; rfl
   rw [g1, Bool.true_and] at HOK
   clear hs0
   cases p1 <;> cases p2 <;> go_wp2 <;> go_ret <;> first | exact ⟨chk_bad (by decide) HOK.out, HE.out⟩ | exact ⟨⟨0, rfl, by rw [HOK.out]; simp⟩, HE.out⟩
  ·have g1 : (s0 == g.startNo) = false := by simpa using hs0
   have g2 : (s0 != g.startNo) = true := by rw [bne, g1]; rfl
   rw [g1, Bool.false_and] at HOK
   clear hs0
   go_wp2
   go_ret
   exact ⟨chk_bad (by decide) HOK.out, HE.out⟩
 ·have g1 : (er == 0) = false := by simpa using h0
  have g2 : (er != 0) = true := by rw [bne, g1]; rfl
  have hok : okB g = false := by
   have : preG g = false := by
    cases h : preG g
    ·rfl
    ·exact absurd (HR.out.1.2 h) h0
   unfold okB; rw [this, Bool.false_and]
  have HOK := hide (And.intro h0 hok)
  clear hok h0 b0 b1 kW k1
  go_wp2
  go_ret
  exact ⟨chk_bad HOK.out.1 HOK.out.2, HKW.out⟩
end Go.Proofs.YtkfdafeonhnloaaGreatDoor
