/-
 chart.rules: the walk.
-/
import Derived.Test.YtkfdafeonhnloaaGreatDoorD11
namespace Go.Proofs.YtkfdafeonhnloaaGreatDoor
open Go.RowKit Go.Shelf Go.Mine Go.Mine.C
attribute [local go_sem] Oper.semAt_some
theorem Tryz_infoT52 : (Tryz.prog.info? 52).map (fun i => (i.zero, i.size, i.bytes)) = some (some (.agg #[.int .i64 0, .int .i64 0, .int .i64 0, .int .i64 0, .slice none 0 0]), 5, 56) := by kernel_rfl
theorem ones52 (l : List TreeH) : ∀ x ∈ l, ∀ u ∈ treeC x, u.oneCell' = true := by
 intro x _ u hu
 simp only [treeC, List.mem_cons, List.not_mem_nil, or_false] at hu
 rcases hu with rfl | rfl | rfl | rfl | rfl <;> rfl
set_option maxRecDepth 100000 in
set_option maxHeartbeats 8000000 in
theorem rules85 (lo cb mk mw q : Nat) (g : GramH) (iA : Option Addr) (iC : Nat) (items : List ItemH) (nn : Int) (ws : Int → List Str) (G : List Goal) (F : Int → Int → Int → C.Found) (M : Goal → Nat) (cat f u : Int) (hf : 0 ≤ f ∧ f < u ∧ u ≤ 16) (X : Nat → Prop) (x0 : C.Found) (h0 : TreeH) (m0 : Goal → Option Value) (w : World)
  (hfix : ChartFix lo cb mk mw g iA iC items nn ws w) (hst : ChartSt X G F mk w m0) (hX : ∀ b, X b → b < w.heap.size) (hq : Blk w q 98 (foundA x0 h0)) (hlq : lo ≤ q) (hr : FoundR X w x0 h0) (hpl : ∀ r ∈ g.rules, r.parts.length ≤ 4)
  (hfind : ∀ r ∈ g.rules, r.catNo = cat → ∀ (pi : Nat) (p : PartM) (a m : Int), r.parts[pi]? = some p → p.isCat = true → f + (pi : Int) ≤ a → a < m → m + (r.parts.length : Int) ≤ u + (pi : Int) + 1 → M (p.catNo, a, m) < M (cat, f, u) ∧ FindSpec lo cb mk mw g iA iC items nn ws G F M (p.catNo, a, m)) :
  Calls Tryz.prog 85 #[.pointer (some ⟨cb, 0, none⟩), goalV (cat, f, u), .pointer (some ⟨q, 0, none⟩)] w fun e w' => e = .returned (.tuple #[]) ∧ KeptBut (fun b => b = mk ∨ b = q) w w' ∧
   ∃ (h' : TreeH) (m' : Goal → Option Value), Blk w' q 98 (foundA (rulesF (g.rules.map RuleH.m) (hasW ws) F cat f u x0) h') ∧ FoundR X w' (rulesF (g.rules.map RuleH.m) (hasW ws) F cat f u x0) h' ∧ ChartSt X G F mk w' m' ∧ ∀ k, M (cat, f, u) ≤ M k → m' k = m0 k := by
 simp only [goalV]
 have HFX0 := hide hfix
 have HST0 := hide hst
 have HQ0 := hide hq
 have HR0 := hide hr
 have HX := hide hX
 have HPL := hide (fun r hr => Nat.le_trans (hpl r hr) (show 4 ≤ 16 by decide))
 have HPL4 := hide hpl
 have HFS := hide hfind
 clear hfind
 clear hpl
 have HALL := hide (rlGo_all (g.rules.map RuleH.m) (hasW ws) F cat f u x0)
 have HLM := hide (show (g.rules.map RuleH.m).length = g.rules.length by simp)
 generalize rulesF (g.rules.map RuleH.m) (hasW ws) F cat f u x0 = RF at *
 refine (callsIn_wide (n := 9)).1 (callsIn_of_wp_marks Tryz.func85 rfl trivial ?_ rfl)
 simp only [Tryz.ntmps85]
 simp only [List.size_toArray, List.length_cons, List.length_nil, Nat.reduceAdd, Nat.reduceSub, Array.replicate_succ, Array.replicate_zero, List.push_toArray, List.append_toArray, List.nil_append, List.cons_append]
 have c5 := (((hfix.chart.alloc (.cells #[.pointer (some ⟨cb, 0, none⟩)] 99)).alloc (.cells #[.int .i64 cat, .int .i64 f, .int .i64 u] 103)).alloc (.cells #[.pointer (some ⟨q, 0, none⟩)] 169)).cell (v := .slice g.rA g.rules.length g.rC) 5 rfl
 have cl := hfix.chart.lt
 have hrl := hfix.rules.le
 have hrm := hfix.rules.max
 have hql := hq.lt
 have hlw := hfix.size
 have hmk := hfix.lmk
 have HB0 := hide (kalloc (kalloc (kalloc (Below.refl w.heap.size w) (.cells #[.pointer (some ⟨cb, 0, none⟩)] 99)) (.cells #[.int .i64 cat, .int .i64 f, .int .i64 u] 103)) (.cells #[.pointer (some ⟨q, 0, none⟩)] 169))
 have HBX0 : Hid (Boxes85 w.heap.size cb q cat f u (((w.alloc (.cells #[.pointer (some ⟨cb, 0, none⟩)] 99)).alloc (.cells #[.int .i64 cat, .int .i64 f, .int .i64 u] 103)).alloc (.cells #[.pointer (some ⟨q, 0, none⟩)] 169))) := hide ⟨((Blk.new w _ _).alloc _).alloc _, (Blk.new1 w _ _ _).alloc _, by have := Blk.new2 w (.cells #[.pointer (some ⟨cb, 0, none⟩)] 99) (.cells #[.int .i64 cat, .int .i64 f, .int .i64 u] 103) #[.pointer (some ⟨q, 0, none⟩)] 169; exact this⟩
 clear hfix hst hq hr hX
 gi_wp2
 clear c5 cl
 obtain ⟨W0, hW0⟩ : ∃ W0, W0 = (((w.alloc (.cells #[.pointer (some ⟨cb, 0, none⟩)] 99)).alloc (.cells #[.int .i64 cat, .int .i64 f, .int .i64 u] 103)).alloc (.cells #[.pointer (some ⟨q, 0, none⟩)] 169)) := ⟨_, rfl⟩
 rw [← hW0] at HB0 HBX0 ⊢
 have hz0 : W0.heap.size = w.heap.size + 3 := by rw [hW0]; simp
 clear hW0
 refine wpIn_loop (fun a' wr => ∃ (k : Nat) (ds : List Nat), a' = { tmps := #[.pointer (some ⟨cb, 0, none⟩), .agg #[.int .i64 cat, .int .i64 f, .int .i64 u], .pointer (some ⟨q, 0, none⟩), .pointer (some ⟨w.heap.size, 0, none⟩), .pointer (some ⟨w.heap.size + 1, 0, none⟩), .pointer (some ⟨w.heap.size + 1 + 1, 0, none⟩), a'.tmps.getD 6 undef, a'.tmps.getD 7 undef, a'.tmps.getD 8 undef, a'.tmps.getD 9 undef, a'.tmps.getD 10 undef, a'.tmps.getD 11 undef, a'.tmps.getD 12 undef, a'.tmps.getD 13 undef, a'.tmps.getD 14 undef, a'.tmps.getD 15 undef, a'.tmps.getD 16 undef, .pointer (some ⟨cb, 0, none⟩), .pointer (some ⟨cb, 0, none⟩), .pointer (some ⟨cb, 0, none⟩), .pointer (some ⟨cb, 5, none⟩), .slice g.rA g.rules.length g.rC, .int .i64 g.rules.length, .int .i64 k, a'.tmps.getD 24 undef, a'.tmps.getD 25 undef, a'.tmps.getD 26 undef, a'.tmps.getD 27 undef, a'.tmps.getD 28 undef, a'.tmps.getD 29 undef, a'.tmps.getD 30 undef, a'.tmps.getD 31 undef, a'.tmps.getD 32 undef, a'.tmps.getD 33 undef, a'.tmps.getD 34 undef, a'.tmps.getD 35 undef, a'.tmps.getD 36 undef, a'.tmps.getD 37 undef, a'.tmps.getD 38 undef, a'.tmps.getD 39 undef, a'.tmps.getD 40 undef, a'.tmps.getD 41 undef, a'.tmps.getD 42 undef, a'.tmps.getD 43 undef, a'.tmps.getD 44 undef, a'.tmps.getD 45 undef, a'.tmps.getD 46 undef, a'.tmps.getD 47 undef, a'.tmps.getD 48 undef, a'.tmps.getD 49 undef, a'.tmps.getD 50 undef, a'.tmps.getD 51 undef, a'.tmps.getD 52 undef, a'.tmps.getD 53 undef, a'.tmps.getD 54 undef, a'.tmps.getD 55 undef, a'.tmps.getD 56 undef, a'.tmps.getD 57 undef, a'.tmps.getD 58 undef, a'.tmps.getD 59 undef, a'.tmps.getD 60 undef, a'.tmps.getD 61 undef, a'.tmps.getD 62 undef, a'.tmps.getD 63 undef, a'.tmps.getD 64 undef, a'.tmps.getD 65 undef, a'.tmps.getD 66 undef, a'.tmps.getD 67 undef, a'.tmps.getD 68 undef, a'.tmps.getD 69 undef, a'.tmps.getD 70 undef, a'.tmps.getD 71 undef, a'.tmps.getD 72 undef, a'.tmps.getD 73 undef, a'.tmps.getD 74 undef, a'.tmps.getD 75 undef, a'.tmps.getD 76 undef, a'.tmps.getD 77 undef, a'.tmps.getD 78 undef, a'.tmps.getD 79 undef, a'.tmps.getD 80 undef, a'.tmps.getD 81 undef, a'.tmps.getD 82 undef, a'.tmps.getD 83 undef, a'.tmps.getD 84 undef, a'.tmps.getD 85 undef, a'.tmps.getD 86 undef, a'.tmps.getD 87 undef, a'.tmps.getD 88 undef, a'.tmps.getD 89 undef, a'.tmps.getD 90 undef, a'.tmps.getD 91 undef, a'.tmps.getD 92 undef, a'.tmps.getD 93 undef, a'.tmps.getD 94 undef, a'.tmps.getD 95 undef, a'.tmps.getD 96 undef, a'.tmps.getD 97 undef, a'.tmps.getD 98 undef], defers := marksOf ds } ∧ k ≤ g.rules.length ∧ Hid (Marks (w.heap.size + 3) wr ds) ∧ Hid (KeptBut (fun b => b = mk ∨ b = q) w wr) ∧ Hid (Boxes85 w.heap.size cb q cat f u wr) ∧ Hid (w.heap.size + 3 ≤ wr.heap.size) ∧
   Hid (Rl85 mk q G F M (cat, f, u) X m0 wr (rlGo (g.rules.map RuleH.m) (hasW ws) F cat f u x0 k))) (fun a' _ => g.rules.length - (Go.Mine.nI (a'.tmps.getD 23 undef)).toNat) ?_ ?_
 ·exact ⟨0, [], by kernel_rfl, Nat.zero_le _, hide (Marks.nil _ _), hide (.of_below HB0.out), HBX0, hide (by omega), hide ⟨h0, m0, HQ0.out.bel HB0.out, HR0.out.keep (KeepT.bel HB0.out), HST0.out.keep (HB0.out.block _ HST0.out.lt) (KeepT.bel HB0.out), fun _ _ => rfl⟩⟩
 ·clear HB0 HBX0
  rintro a' wo ⟨k, ds, ha, hk, HM, HKB, HBX, HZ, HRL⟩
  generalize a'.tmps.getD 6 undef = u6 at ha
  generalize a'.tmps.getD 7 undef = u7 at ha
  generalize a'.tmps.getD 8 undef = u8 at ha
  generalize a'.tmps.getD 9 undef = u9 at ha
  generalize a'.tmps.getD 10 undef = u10 at ha
  generalize a'.tmps.getD 11 undef = u11 at ha
  generalize a'.tmps.getD 12 undef = u12 at ha
  generalize a'.tmps.getD 13 undef = u13 at ha
  generalize a'.tmps.getD 14 undef = u14 at ha
  generalize a'.tmps.getD 15 undef = u15 at ha
  generalize a'.tmps.getD 16 undef = u16 at ha
  generalize a'.tmps.getD 24 undef = u24 at ha
  generalize a'.tmps.getD 25 undef = u25 at ha
  generalize a'.tmps.getD 26 undef = u26 at ha
  generalize a'.tmps.getD 27 undef = u27 at ha
  generalize a'.tmps.getD 28 undef = u28 at ha
  generalize a'.tmps.getD 29 undef = u29 at ha
  generalize a'.tmps.getD 30 undef = u30 at ha
  generalize a'.tmps.getD 31 undef = u31 at ha
  generalize a'.tmps.getD 32 undef = u32 at ha
  generalize a'.tmps.getD 33 undef = u33 at ha
  generalize a'.tmps.getD 34 undef = u34 at ha
  generalize a'.tmps.getD 35 undef = u35 at ha
  generalize a'.tmps.getD 36 undef = u36 at ha
  generalize a'.tmps.getD 37 undef = u37 at ha
  generalize a'.tmps.getD 38 undef = u38 at ha
  generalize a'.tmps.getD 39 undef = u39 at ha
  generalize a'.tmps.getD 40 undef = u40 at ha
  generalize a'.tmps.getD 41 undef = u41 at ha
  generalize a'.tmps.getD 42 undef = u42 at ha
  generalize a'.tmps.getD 43 undef = u43 at ha
  generalize a'.tmps.getD 44 undef = u44 at ha
  generalize a'.tmps.getD 45 undef = u45 at ha
  generalize a'.tmps.getD 46 undef = u46 at ha
  generalize a'.tmps.getD 47 undef = u47 at ha
  generalize a'.tmps.getD 48 undef = u48 at ha
  generalize a'.tmps.getD 49 undef = u49 at ha
  generalize a'.tmps.getD 50 undef = u50 at ha
  generalize a'.tmps.getD 51 undef = u51 at ha
  generalize a'.tmps.getD 52 undef = u52 at ha
  generalize a'.tmps.getD 53 undef = u53 at ha
  generalize a'.tmps.getD 54 undef = u54 at ha
  generalize a'.tmps.getD 55 undef = u55 at ha
  generalize a'.tmps.getD 56 undef = u56 at ha
  generalize a'.tmps.getD 57 undef = u57 at ha
  generalize a'.tmps.getD 58 undef = u58 at ha
  generalize a'.tmps.getD 59 undef = u59 at ha
  generalize a'.tmps.getD 60 undef = u60 at ha
  generalize a'.tmps.getD 61 undef = u61 at ha
  generalize a'.tmps.getD 62 undef = u62 at ha
  generalize a'.tmps.getD 63 undef = u63 at ha
  generalize a'.tmps.getD 64 undef = u64 at ha
  generalize a'.tmps.getD 65 undef = u65 at ha
  generalize a'.tmps.getD 66 undef = u66 at ha
  generalize a'.tmps.getD 67 undef = u67 at ha
  generalize a'.tmps.getD 68 undef = u68 at ha
  generalize a'.tmps.getD 69 undef = u69 at ha
  generalize a'.tmps.getD 70 undef = u70 at ha
  generalize a'.tmps.getD 71 undef = u71 at ha
  generalize a'.tmps.getD 72 undef = u72 at ha
  generalize a'.tmps.getD 73 undef = u73 at ha
  generalize a'.tmps.getD 74 undef = u74 at ha
  generalize a'.tmps.getD 75 undef = u75 at ha
  generalize a'.tmps.getD 76 undef = u76 at ha
  generalize a'.tmps.getD 77 undef = u77 at ha
  generalize a'.tmps.getD 78 undef = u78 at ha
  generalize a'.tmps.getD 79 undef = u79 at ha
  generalize a'.tmps.getD 80 undef = u80 at ha
  generalize a'.tmps.getD 81 undef = u81 at ha
  generalize a'.tmps.getD 82 undef = u82 at ha
  generalize a'.tmps.getD 83 undef = u83 at ha
  generalize a'.tmps.getD 84 undef = u84 at ha
  generalize a'.tmps.getD 85 undef = u85 at ha
  generalize a'.tmps.getD 86 undef = u86 at ha
  generalize a'.tmps.getD 87 undef = u87 at ha
  generalize a'.tmps.getD 88 undef = u88 at ha
  generalize a'.tmps.getD 89 undef = u89 at ha
  generalize a'.tmps.getD 90 undef = u90 at ha
  generalize a'.tmps.getD 91 undef = u91 at ha
  generalize a'.tmps.getD 92 undef = u92 at ha
  generalize a'.tmps.getD 93 undef = u93 at ha
  generalize a'.tmps.getD 94 undef = u94 at ha
  generalize a'.tmps.getD 95 undef = u95 at ha
  generalize a'.tmps.getD 96 undef = u96 at ha
  generalize a'.tmps.getD 97 undef = u97 at ha
  generalize a'.tmps.getD 98 undef = u98 at ha
  dsimp only at ha
  subst ha
  have b0 := HBX.out.c.cell (v := .pointer (some ⟨cb, 0, none⟩)) 0 rfl
  have b1 := HBX.out.g.cell (v := .int .i64 cat) 0 rfl
  have bl := HBX.out.c.lt
  have bl1 := HBX.out.g.lt
  have hfw := HFX0.out.but HKB.out (fun b hb => by rcases hb with h | h; exact .inl h; exact .inr (by omega))
  have HFW := hide hfw
  by_cases hlt : k < g.rules.length
  ·obtain ⟨r, b, off, hrk, hdr, hA, hbw, c0, c1, c2, c3, c4⟩ := rule_at hfw.rules hlt
   have hmem := List.mem_of_getElem? hrk
   have hrm' : (g.rules.map RuleH.m)[k]? = some r.m := by rw [List.getElem?_map, hrk]; rfl
   have HST := hide (rlGo_succ (has := hasW ws) (F := F) (cat := cat) (f := f) (u := u) (x := x0) hrm')
   have HW1 := hide (kalloc (kalloc (Below.refl wo.heap.size wo) (.cells #[.int .i64 k] 3)) (.cells #[.string r.cat, .int .i64 r.catNo, .slice r.pA r.parts.length r.pC, .slice r.gA r.gives.length r.gC, .int .i64 r.cost] 111))
   rw [hA]
   clear hrm' hdr hfw
   by_cases hcat : r.catNo = cat
   ·have HS2 := hide (HST.out.trans (if_pos hcat))
    subst hcat
    have b2 := HBX.out.g.cell (v := .int .i64 f) 1 rfl
    have b3 := HBX.out.g.cell (v := .int .i64 u) 2 rfl
    have K110 := hide (lays110 cb mk mw g iA items.length iC nn r.pA r.pC r.parts f u ((wo.alloc (.cells #[.int .i64 k] 3)).alloc (.cells #[.string r.cat, .int .i64 r.catNo, .slice r.pA r.parts.length r.pC, .slice r.gA r.gives.length r.gC, .int .i64 r.cost] 111)))
    have hz2 : ((wo.alloc (.cells #[.int .i64 k] 3)).alloc (.cells #[.string r.cat, .int .i64 r.catNo, .slice r.pA r.parts.length r.pC, .slice r.gA r.gives.length r.gC, .int .i64 r.cost] 111)).heap.size = wo.heap.size + 2 := by simp
    have HIB := hide ((Blk.new wo #[.int .i64 k] 3).alloc (.cells #[.string r.cat, .int .i64 r.catNo, .slice r.pA r.parts.length r.pC, .slice r.gA r.gives.length r.gC, .int .i64 r.cost] 111))
    have HRB := hide (show Blk ((wo.alloc (.cells #[.int .i64 k] 3)).alloc (.cells #[.string r.cat, .int .i64 r.catNo, .slice r.pA r.parts.length r.pC, .slice r.gA r.gives.length r.gC, .int .i64 r.cost] 111)) (wo.heap.size + 1) 111 (ruleA r) from Blk.new1 wo (.cells #[.int .i64 k] 3) (ruleA r) 111)
    clear HST
    gi_wp2_with fail
    obtain ⟨W2, hW2⟩ : ∃ W2, W2 = ((wo.alloc (.cells #[.int .i64 k] 3)).alloc (.cells #[.string r.cat, .int .i64 r.catNo, .slice r.pA r.parts.length r.pC, .slice r.gA r.gives.length r.gC, .int .i64 r.cost] 111)) := ⟨_, rfl⟩
    rw [← hW2] at K110 hz2 HIB HRB HW1 ⊢
    clear hW2 c0 c1 c2 c3 c4 b0 b1 b2 b3
    refine (callsIn_wide.2 K110.out).mono ?_
    rintro e W3 ⟨lB, fB, rfl, hlay, hb3⟩
    obtain ⟨pB, uB, eB, cB, l1, l2, l3, l4, l5, l6, l7, l8⟩ := hlay.ex
    rw [hz2] at l7
    have HB3 := hide (kcall HW1.out hb3)
    have hz3 := hb3.size
    have HIB3 := hide (HIB.out.bel hb3)
    have HRB3 := hide (HRB.out.bel hb3)
    have HF3 := hide (HFW.out.keep HB3.out.size fun b hb _ => HB3.out.block b (Nat.lt_of_lt_of_le hb HFW.out.size))
    have hzw := HZ.out
    have HLOW : Hid (Low85 mk q wo.heap.size w ds) := hide ⟨hzw, by omega, hql, fun d hd => HM.out.lt hd⟩
    have hxs : (∀ b, (b < W3.heap.size ∧ b ≠ eB ∧ b ≠ mk ∧ b ≠ q) → b < W3.heap.size ∧ b ≠ eB) := fun b hb => ⟨hb.1, hb.2.1⟩
    have hlow : ∀ b, (b < lo ∧ b ≠ mk) → (b < W3.heap.size ∧ b ≠ eB ∧ b ≠ mk ∧ b ≠ q) := fun b hb => ⟨by omega, by omega, hb.2, by omega⟩
    have hp4 := HPL.out r hmem
    have HIT := hide (lays149 cb pB uB eB cB lB fB mk mw g iA items.length iC nn r.pA r.pC r.parts f u ws (fun b => b < W3.heap.size ∧ b ≠ eB ∧ b ≠ mk ∧ b ≠ q) W3
     ⟨HF3.out.chart, l1, l2, l3, l6, HF3.out.parts r hmem, HF3.out.words.mono hlow, ⟨hlow _ HF3.out.lcb, ⟨l1.lt, fun e => l8.1 e.symm, by omega, by omega⟩, ⟨l2.lt, fun e => l8.2.1 e.symm, by omega, by omega⟩, ⟨l3.lt, fun e => l8.2.2.1 e.symm, by omega, by omega⟩, ⟨l6.lt, fun e => l8.2.2.2.2 e.symm, by omega, by omega⟩⟩, fun a ha hn => hlow _ (HF3.out.lparts r hmem a ha hn)⟩
     l4 l5 ⟨l4.lt, fun e => l8.2.2.2.1 e.symm, by omega, by omega⟩ hxs ⟨by omega, hf.2.2⟩ ⟨hf.1, by omega⟩ hp4)
    have hI0 : Rng85 mk q cb wo.heap.size G F M r.catNo f u X m0 w ds k r (enGo F r.parts r.cost k f u (laysL (hasW ws) r.parts f u) (rlGo (g.rules.map RuleH.m) (hasW ws) F r.catNo f u x0 k) 0) (fun b => b = eB) W3 :=
     ⟨fun b hb => by omega, by omega, HRL.out.move (KeepT.bel HB3.out) (HB3.out.block _ (by omega)) (HB3.out.block _ (by omega)) (fun b hb => by rcases hb with h | h; exact .inl h; exact .inr (by omega)), HKB.out.below HB3.out, HBX.out.bel HB3.out, HM.out.bel HB3.out, HIB3.out, HRB3.out⟩
    have HI0 := hide hI0
    have heB := l5.lt
    clear hI0 hlay l1 l2 l3 l4 l5 l6 HRL HKB HBX HIB HRB HIB3 HRB3 HW1 K110 hlow
    gi_wp2_with fail
    refine wpIn_rangeX (gf := 149) (lb := #[.pointer (some ⟨lB, 0, none⟩), .pointer (some ⟨fB, 0, none⟩)]) rfl e149 HIT.out (Nat.le_refl _) (fun b hb => ⟨by rcases hb with h | h; (rw [h]; exact heB); exact h.1, rfl⟩)
     (fun j x O W h => by obtain ⟨A, c, l, _, e, _⟩ := h; rw [e]; rfl)
     (fun j O W => Rng85 mk q cb wo.heap.size G F M r.catNo f u X m0 w ds k r (enGo F r.parts r.cost k f u (laysL (hasW ws) r.parts f u) (rlGo (g.rules.map RuleH.m) (hasW ws) F r.catNo f u x0 k) j) O W) (fun _ _ _ => False)
     (fun s O O' W W' h st => h.step HLOW.out st) (fun _ _ _ _ _ h _ => h) HI0.out ?body ?done ?pan ?stop
    case body =>
     rintro lp j x O O' W hj hY hOO hNC hI hOb hWz
     obtain ⟨A, c, ends, hLk, hxe, hsl, hsO⟩ := hY
     subst hxe
     clear HI0 HIT
     gi_wp2
     refine ⟨Kept.refl _ _, fun d o hd hst => ?_⟩
     obtain ⟨W5, hW5⟩ : ∃ W5, W5 = W.putObj d o := ⟨_, rfl⟩
     have hI5 := hI.step HLOW.out hst
     have hsl5 := Sl.turned hsl o hd (by decide)
     have hz5 : W5.heap.size = W.heap.size := by rw [hW5]; simp
     rw [← hW5] at hI5 hsl5 ⊢
     clear hW5 hst hI hsl
     have r2 := (hI5.rb.alloc (.cells #[.slice none 0 0] 50)).cell (v := .slice r.pA r.parts.length r.pC) 2 rfl
     have r4 := hI5.rb.cell (v := .int .i64 r.cost) 4 rfl
     have rl := hI5.rb.lt
     have b1 := (hI5.bx.g.alloc (.cells #[.slice none 0 0] 50)).cell (v := .int .i64 f) 1 rfl
     have bl := hI5.bx.g.lt
     have HI5 := hide hI5
     have HSL5 := hide hsl5
     have HSO := hide (show ∀ a, A = some a → ends ≠ [] → O' a.block from fun a ha hn => hOO _ (hsO a ha hn))
     have HOB := hide (show ∀ b, O' b → (b = eB ∨ W3.heap.size ≤ b) ∧ b < W5.heap.size from fun b hb => by rw [hz5]; exact hOb b hb)
     have HLK := hide hLk
     have HJX := hide (enGo_succ (F := F) (ps := r.parts) (rc := r.cost) (idx := k) (f := f) (u := u) (x := rlGo (g.rules.map RuleH.m) (hasW ws) F r.catNo f u x0 k) hLk)
     have hem : ends ∈ laysL (hasW ws) r.parts f u := List.mem_of_getElem? hLk
     have HEM := hide hem
     clear hI5 hsl5 hsO hOO hNC hOb hLk hem hd HS2
     gi_wp2
     obtain ⟨W6, hW6⟩ : ∃ W6, W6 = W5.alloc (.cells #[.slice none 0 0] 50) := ⟨_, rfl⟩
     have hz6 : W6.heap.size = W.heap.size + 1 := by rw [hW6]; simp [hz5]
     have HF6 : Hid (ChartFix lo cb mk mw g iA iC items nn ws W6) := hide (by
      have h1 := HFX0.out.but HI5.out.kb (fun b hb => by rcases hb with h | h; exact .inl h; exact .inr (by omega))
      exact h1.keep (by rw [hW6]; simp) fun b hb _ => by rw [hW6]; exact Below.heap_alloc _ _ _ (Nat.lt_of_lt_of_le hb h1.size))
     have HB6 := hide (show Below W5.heap.size W5 W6 by rw [hW6]; exact kalloc (Below.refl _ _) _)
     have HK6 : Hid (Blk W6 W.heap.size 50 #[.slice none 0 0]) := hide (by rw [hW6]; exact Blk.new' hz5)
     rw [← hW6]
     clear hW6 r2 r4 rl b1 bl
     have HBX6 := hide (HI5.out.bx.bel HB6.out)
     have HSL6 := hide (HSL5.out.bel HB6.out)
     have hWs := HI5.out.size
     rw [hz5] at hWs
     have HP0 : Hid (Pt85 mk W.heap.size q G F M (r.catNo, f, u) (fun b => X b ∨ O' b) m0 (enGo F r.parts r.cost k f u (laysL (hasW ws) r.parts f u) (rlGo (g.rules.map RuleH.m) (hasW ws) F r.catNo f u x0 k) j) (hasW ws) r.parts ends f u r.cost W6 0 0 f r.cost 1 W6) :=
      hide ⟨[], [], _, ⟨by simp, by simpa using HEM.out, by simp, Nat.zero_le _⟩, HK6.out, OwnL.nil _ _ _ _ _, ⟨rfl, Nat.le_refl _⟩, fun j h t hj => by simp at hj, HI5.out.rl.move (KeepT.bel HB6.out) (HB6.out.block _ (by have := HLOW.out.b; omega)) (HB6.out.block _ (by have := HLOW.out.b; omega)) (fun b hb => by
       rcases hb with h | h
       ·exact .inl h
       ·simp [Value.ownBlock] at h), KeptBut.refl _ _⟩
     gi_loopw [9, 10, 12, 13, 49] (fun t9 t10 t12 t13 t49 wp => ∃ (pi kk : Nat) (at_ cost many : Int), t9 = .int .i64 cost ∧ t10 = .int .i64 many ∧ t12 = .int .i64 at_ ∧ t13 = .int .i64 kk ∧ t49 = .int .i64 pi ∧ pi ≤ r.parts.length ∧
      Hid (Pt85 mk W.heap.size q G F M (r.catNo, f, u) (fun b => X b ∨ O' b) m0 (enGo F r.parts r.cost k f u (laysL (hasW ws) r.parts f u) (rlGo (g.rules.map RuleH.m) (hasW ws) F r.catNo f u x0 k) j) (hasW ws) r.parts ends f u r.cost W6 pi kk at_ cost many wp)) (fun _ _ _ _ t49 _ => r.parts.length - (Go.Mine.nI t49).toNat)
     case atStart => exact ⟨0, 0, f, r.cost, 1, rfl, rfl, rfl, rfl, rfl, Nat.zero_le _, HP0⟩
     case round =>
      clear HP0 HK6
      obtain ⟨pi, kk, at_, cost, many, rfl, rfl, rfl, rfl, rfl, hpi, HPT⟩ := hrel
      by_cases hplt : pi < r.parts.length
      ·obtain ⟨ks, kids, v, ⟨hkg, hlay, hat, hkk⟩, hkb, hown, ⟨hkl, hkp⟩, htr, hrl, hkeep⟩ := HPT.out
       have hfr := HF6.out.but hkeep (fun b hb => by rcases hb with h | h; exact .inl h; exact .inr (by omega))
       obtain ⟨p, b2, off2, hpx, hdr, hA2, hb2w, c0, c1, c2⟩ := part_at (hfr.parts r hmem) hplt
       rw [hdr] at hkg hlay
       rw [hA2]
       obtain ⟨W7, hW7⟩ : ∃ W7, W7 = wr.alloc (.cells #[.string p.cat, .int .i64 p.catNo, .string p.text] 125) := ⟨_, rfl⟩
       have hb7 : Below wr.heap.size wr W7 := by rw [hW7]; exact kalloc (Below.refl _ _) _
       have HB15 := hide (show Blk W7 wr.heap.size 125 #[.string p.cat, .int .i64 p.catNo, .string p.text] by rw [hW7]; exact Blk.new wr _ _)
       have HB7 := hide hb7
       have HKG := hide hkg
       have HKB := hide (hkb.bel hb7)
       have HOW := hide (hown.bel hb7)
       have HTR := hide (show ∀ (j : Nat) (h : TreeH) (t : Tree), kids[j]? = some h → ks[j]? = some t → TreeR (fun b => (X b ∨ O' b) ∨ v.ownBlock = some b) W7 h t from fun j h t h1 h2 => (htr j h t h1 h2).keep (KeepT.bel hb7))
       have HRL := hide (show Rl85 mk q G F M (r.catNo, f, u) (fun b => (X b ∨ O' b) ∨ v.ownBlock = some b) m0 W7 (enGo F r.parts r.cost k f u (laysL (hasW ws) r.parts f u) (rlGo (g.rules.map RuleH.m) (hasW ws) F r.catNo f u x0 k) j) from hrl.move (KeepT.bel hb7) (hb7.block _ (by obtain ⟨_, _, e, _⟩ := hrl; exact e.lt)) (hb7.block _ (by obtain ⟨_, _, _, _, e, _⟩ := hrl; exact e.lt)) (fun b hb => .inl hb))
       have HK7 := hide (hkeep.below hb7)
       have HF7 := hide (hfr.keep hb7.size fun b hb _ => hb7.block b (Nat.lt_of_lt_of_le hb hfr.size))
       have hz7 : W7.heap.size = wr.heap.size + 1 := by rw [hW7]; simp
       have hW6r := hkeep.size
       have HTY := hide hkl
       clear HPT hkg hkb hown htr hrl hkeep hfr hb7 hdr hkl
       by_cases hpc : p.text.size = 0
       ·have hcat : p.isCat = true := by unfold PartM.isCat; exact decide_eq_true hpc
        obtain ⟨m, e', hde, hm1, hm2, hl'⟩ := lay_cat hcat hlay
        have ht : p.text = ByteArray.empty := str_empty hpc
        have hek : ends[kk]? = some m := by
         have := congrArg (fun l => l[0]?) hde
         simpa using this
        have hkl : kk < ends.length := lt_of_get hek
        have hde' : ends.drop (kk + 1) = e' := by
         have := congrArg List.tail hde
         simpa using this
        have hpartl : (pi : Int) + ((r.parts.drop (pi + 1)).length : Int) + 1 = r.parts.length := by rw [List.length_drop]; omega
        obtain ⟨eb, eo, hAe, hebw, hec⟩ := HSL6.out.addr (by intro e; rw [e] at hkl; simp at hkl)
        have hc6 : W6.cell? ⟨eb, eo + kk, none⟩ = some (.int .i64 m) := by
         have := hec kk m hek 0 (.int .i64 m) rfl
         simpa using this
        have hebO := HOB.out eb (HSO.out _ hAe (by intro e; rw [e] at hkl; simp at hkl))
        have HEC := hide (show ∀ w', KeptBut (fun b => b = mk ∨ b = W.heap.size) W6 w' → w'.cell? ⟨eb, eo + kk, none⟩ = some (.int .i64 m) from fun w' hw' => by
         have := hw'.keep eb hebw (fun h => by rcases h with h | h; (have := HLOW.out.b; have := HLOW.out.mk_; omega); omega)
         simp only [World.cell?, this] at hc6 ⊢
         exact hc6)
        have HM7 : Hid (∀ w', KeptBut (· = mk) W7 w' → KeptBut (fun b => b = mk ∨ b = W.heap.size) W6 w') := hide (fun w' hw' => HK7.out.trans (hw'.mono fun b hb => .inl hb))
        have HBC := hide (Blk.but HBX6.out.c HK7.out (fun h => by rcases h with h | h; (have := HLOW.out.mk_; omega); (have := HLOW.out.b; omega)))
        have hmk15 : ¬ (wr.heap.size = mk) := fun e => by have := HLOW.out.b; have := HLOW.out.mk_; omega
        obtain ⟨sf, hsf⟩ : ∃ sf, sf = F p.catNo at_ m := ⟨_, rfl⟩
        obtain ⟨hMs, hFS⟩ := HFS.out r hmem rfl pi p at_ m hpx hcat hat (by omega) (by omega)
        have hqw : q < w.heap.size := hql
        have hel := HSL6.out.le
        have hel2 := HSL6.out.max
        have hmw := HLOW.out.mk_
        have hlob := HLOW.out.b
        have hW7w : w.heap.size + 5 ≤ W7.heap.size := by omega
        have hY3 : ∀ b, ((X b ∨ O' b) ∨ v.ownBlock = some b) → b < W7.heap.size := fun b hb => by
         rcases hb with (h | h) | h
         ·have := HX.out b h; omega
         ·have := (HOB.out b h).2; omega
         ·exact (HOW.out.blk h).2.1
        have HFIND : Hid (∀ W', Below W7.heap.size W7 W' → Calls Tryz.prog 47 #[.pointer (some ⟨cb, 0, none⟩), .agg #[.int .i64 p.catNo, .int .i64 at_, .int .i64 m]] W' fun e w9 => ∃ h2, e = .returned (foundV sf h2) ∧ FoundR (fun b => (X b ∨ O' b) ∨ v.ownBlock = some b) w9 sf h2 ∧ Rl85 mk q G F M (r.catNo, f, u) (fun b => (X b ∨ O' b) ∨ v.ownBlock = some b) m0 w9 (enGo F r.parts r.cost k f u (laysL (hasW ws) r.parts f u) (rlGo (g.rules.map RuleH.m) (hasW ws) F r.catNo f u x0 k) j) ∧ KeptBut (· = mk) W' w9) := hide (fun W' hW' => by
         obtain ⟨h1, m1, e1, e2, e3, e4⟩ := HRL.out
         refine (hFS (fun b => (X b ∨ O' b) ∨ v.ownBlock = some b) W' m1 (HF7.out.keep hW'.size fun b hb _ => hW'.block b (Nat.lt_of_lt_of_le hb HF7.out.size)) (e3.keep (hW'.block _ e3.lt) (KeepT.bel hW')) (fun b hb => Nat.lt_of_lt_of_le (hY3 b hb) hW'.size)).mono ?_
         rintro e w9 ⟨h2, m2, rfl, f1, f2, f3, f4⟩
         have hkt : KeepT (fun b => (X b ∨ O' b) ∨ v.ownBlock = some b) W' w9 := KeepT.but f4 fun b hb => .inr fun cs fz e => by
          obtain rfl : b = mk := hb
          exact (e3.keep (hW'.block _ e3.lt) (KeepT.bel hW')).notcells cs 52 fz e
         refine ⟨h2, by rw [hsf], by rw [hsf]; exact f1, ⟨h1, m2, Blk.but (e1.bel hW') f4 (fun e => by omega), (e2.keep (KeepT.bel hW')).keep hkt, f2, fun kz hkz => (f3 kz (Nat.lt_of_lt_of_le hMs hkz)).trans (e4 kz hkz)⟩, f4⟩)
        have hqlt : ∀ {w9 : World}, KeptBut (· = mk) W7 w9 → q < w9.heap.size := fun h => by have := h.size; omega
        have hmlt : ∀ {w9 : World}, KeptBut (· = mk) W7 w9 → mk < w9.heap.size := fun h => by have := h.size; omega
        have hqne : q ≠ W7.heap.size := by omega
        have hmne : mk ≠ W7.heap.size := by omega
        have HHD := hide (show at_ + 1 ≤ m ∧ m ≤ 16 by omega)
        rw [ht] at HB15 hW7 c2
        rw [hAe]
        have HSF := hide hsf
        have HZ7 := hide hz7
        have hW67 : W6.heap.size < W7.heap.size := by omega
        clear hz7
        clear hec hc6 hFS hMs hpc hsf
        gi_wp2_with fail
        rw [← hW7]
        have hmkw : ¬ (w.heap.size = mk) := by omega
        clear hW7
        refine wpIn_region_cut (ro := some lp) (S := fun w' => KeptBut (· = mk) W7 w') (fun a a' w' => ∃ (h2 : TreeH) (b16 : Nat), a' = (((((((((((a.put (some 58) (a'.tmps.getD 58 undef)).put (some 59) (a'.tmps.getD 59 undef)).put (some 60) (a'.tmps.getD 60 undef)).put (some 61) (a'.tmps.getD 61 undef)).put (some 62) (a'.tmps.getD 62 undef)).put (some 63) (a'.tmps.getD 63 undef)).put (some 64) (a'.tmps.getD 64 undef)).put (some 65) (a'.tmps.getD 65 undef)).put (some 66) (a'.tmps.getD 66 undef)).put (some 67) (a'.tmps.getD 67 undef)).put (some 16) (.pointer (some ⟨b16, 0, none⟩))) ∧ Blk w' b16 98 (foundA sf h2) ∧ FoundR (fun b => (X b ∨ O' b) ∨ v.ownBlock = some b) w' sf h2 ∧ Rl85 mk q G F M (r.catNo, f, u) (fun b => (X b ∨ O' b) ∨ v.ownBlock = some b) m0 w' (enGo F r.parts r.cost k f u (laysL (hasW ws) r.parts f u) (rlGo (g.rules.map RuleH.m) (hasW ws) F r.catNo f u x0 k) j) ∧ KeptBut (· = mk) W7 w' ∧ W7.heap.size ≤ b16) (by kernel_rfl) (by kernel_rfl) (KeptBut.refl _ _).drew (fun hHeld => ?_) ?_
        ·(try simp only [Act.put, List.setIfInBounds_toArray, List.set_cons_zero, List.set_cons_succ])
         refine wpAnyH_take (i := 0) (v := ?_) rfl (by kernel_rfl) (by kernel_rfl) (by kernel_rfl) (fun _ _ _ h => h) (Or.inl ⟨by rfl, ?_⟩) (by assumption) ?_
         rotate_left
         ·intro w' hSw
          have m0 := (Blk.but HBC.out hSw hmkw).cell (v := .pointer (some ⟨cb, 0, none⟩)) 0 rfl
          go_simp
          (try go_bits)
          try with_reducible rfl
         (try simp only [Act.put, List.setIfInBounds_toArray, List.set_cons_zero, List.set_cons_succ])
         refine wpAnyH_take (i := 1) (v := ?_) rfl (by kernel_rfl) (by kernel_rfl) (by kernel_rfl) (fun _ _ _ h => h) (Or.inl ⟨by rfl, ?_⟩) (by assumption) ?_
         rotate_left
         ·intro w' hSw
          go_simp
          (try go_bits)
          try with_reducible rfl
         (try simp only [Act.put, List.setIfInBounds_toArray, List.set_cons_zero, List.set_cons_succ])
         refine wpAnyH_take (i := 2) (v := ?_) rfl (by kernel_rfl) (by kernel_rfl) (by kernel_rfl) (fun _ _ _ h => h) (Or.inl ⟨by rfl, ?_⟩) (by assumption) ?_
         rotate_left
         ·intro w' hSw
          have m0 := (Blk.but HB15.out hSw hmk15).cell (v := .int .i64 p.catNo) 1 rfl
          go_simp
          (try go_bits)
          try with_reducible rfl
         (try simp only [Act.put, List.setIfInBounds_toArray, List.set_cons_zero, List.set_cons_succ])
         refine wpAnyH_take (i := 3) (v := ?_) rfl (by kernel_rfl) (by kernel_rfl) (by kernel_rfl) (fun _ _ _ h => h) (Or.inl ⟨by rfl, ?_⟩) (by assumption) ?_
         rotate_left
         ·intro w' hSw
          go_simp
          (try go_bits)
          try with_reducible rfl
         (try simp only [Act.put, List.setIfInBounds_toArray, List.set_cons_zero, List.set_cons_succ])
         refine wpAnyH_take (i := 4) (v := ?_) rfl (by kernel_rfl) (by kernel_rfl) (by kernel_rfl) (fun _ _ _ h => h) (Or.inl ⟨by rfl, ?_⟩) (by assumption) ?_
         rotate_left
         ·intro w' hSw
          go_simp
          (try go_bits)
          try with_reducible rfl
         (try simp only [Act.put, List.setIfInBounds_toArray, List.set_cons_zero, List.set_cons_succ])
         refine wpAnyH_take (i := 5) (v := ?_) rfl (by kernel_rfl) (by kernel_rfl) (by kernel_rfl) (fun _ _ _ h => h) (Or.inl ⟨by rfl, ?_⟩) (by assumption) ?_
         rotate_left
         ·intro w' hSw
          go_simp
          (try go_bits)
          try with_reducible rfl
         (try simp only [Act.put, List.setIfInBounds_toArray, List.set_cons_zero, List.set_cons_succ])
         refine wpAnyH_take (i := 6) (v := ?_) rfl (by kernel_rfl) (by kernel_rfl) (by kernel_rfl) (fun _ _ _ h => h) (Or.inl ⟨by rfl, ?_⟩) (by assumption) ?_
         rotate_left
         ·intro w' hSw
          go_simp
          (try go_bits)
          try with_reducible rfl
         (try simp only [Act.put, List.setIfInBounds_toArray, List.set_cons_zero, List.set_cons_succ])
         refine wpAnyH_take (i := 7) (v := ?_) rfl (by kernel_rfl) (by kernel_rfl) (by kernel_rfl) (fun _ _ _ h => h) (Or.inl ⟨by rfl, ?_⟩) (by assumption) ?_
         rotate_left
         ·intro w' hSw
          have m0 := HEC.out w' (HM7.out w' hSw)
          go_simp
          (try go_bits)
          try with_reducible rfl
         (try simp only [Act.put, List.setIfInBounds_toArray, List.set_cons_zero, List.set_cons_succ])
         refine wpAnyH_take (i := 8) (v := ?_) rfl (by kernel_rfl) (by kernel_rfl) (by kernel_rfl) (fun _ _ _ h => h) (Or.inl ⟨by rfl, ?_⟩) (by assumption) ?_
         rotate_left
         ·intro w' hSw
          go_simp
          (try go_bits)
          try with_reducible rfl
         (try simp only [Act.put, List.setIfInBounds_toArray, List.set_cons_zero, List.set_cons_succ])
         refine wpAnyH_ready (rs := [9, 10]) (by kernel_rfl) (by simp) (AllReadyH.cons rfl (fun K hK => ?_) (AllReadyH.cons rfl (fun K hK => ?_) AllReadyH.nil))
         ·go_simp
          refine (HFIND.out _ (Below.refl _ _).drew).mono ?_
          rintro e w9 ⟨h2, rfl, hfr2, hrl2, hk2⟩
          simp only [foundV]
          (try go_simp)
          have hS3 := hHeld.trans hk2
          refine hK.out _ _ hS3 (fun hHeld2 => ?_)
          clear hK K
          (try simp only [Act.put, List.setIfInBounds_toArray, List.set_cons_zero, List.set_cons_succ])
          refine wpAnyH_ready (rs := [10]) (by kernel_rfl) (by simp) (AllReadyH.cons rfl (fun K hK => ?_) AllReadyH.nil)
          go_simp
          refine hK.out _ _ (hS3.alloc _) (fun hHeld3 => ?_)
          clear hK K
          (try simp only [Act.put, List.setIfInBounds_toArray, List.set_cons_zero, List.set_cons_succ])
          refine wpAnyH_ready (rs := [11]) (by kernel_rfl) (by simp) (AllReadyH.cons rfl (fun K hK => ?_) AllReadyH.nil)
          go_simp
          refine hK.out _ _ (hS3.alloc _) (fun hHeld4 => ?_)
          clear hK K
          (try simp only [Act.put, List.setIfInBounds_toArray, List.set_cons_zero, List.set_cons_succ])
          have hbA : ∀ o, Below w9.heap.size w9 (w9.alloc o) := fun o => kalloc (Below.refl _ _) o
          refine wpAnyH_done (by kernel_rfl) ?_ _
          exact ⟨h2, w9.heap.size, by kernel_rfl, Blk.new w9 _ 98, hfr2.keep (KeepT.bel (hbA _)), hrl2.move (KeepT.bel (hbA _)) ((hbA _).block _ (hqlt hS3)) ((hbA _).block _ (hmlt hS3)) (fun b hb => .inl hb), hS3.alloc _, hS3.size⟩
         ·go_simp
          refine hK.out _ _ (hHeld.alloc _) (fun hHeld2 => ?_)
          clear hK K
          (try simp only [Act.put, List.setIfInBounds_toArray, List.set_cons_zero, List.set_cons_succ])
          refine wpAnyH_ready (rs := [9]) (by kernel_rfl) (by simp) (AllReadyH.cons rfl (fun K hK => ?_) AllReadyH.nil)
          go_simp
          refine (HFIND.out _ (kalloc (Below.refl _ _).drew _)).mono ?_
          rintro e w9 ⟨h2, rfl, hfr2, hrl2, hk2⟩
          simp only [foundV]
          (try go_simp)
          have hS3 := hHeld2.trans hk2
          refine hK.out _ _ hS3 (fun hHeld3 => ?_)
          clear hK K
          (try simp only [Act.put, List.setIfInBounds_toArray, List.set_cons_zero, List.set_cons_succ])
          have hBQ : Blk w9 W7.heap.size 98 #[.bool false, .int .i64 0, .int .i64 0, .int .i64 0, .int .i64 0, .int .i64 0, .slice none 0 0, .int .i64 0] := Blk.but (Blk.new W7.drew #[.bool false, .int .i64 0, .int .i64 0, .int .i64 0, .int .i64 0, .int .i64 0, .slice none 0 0, .int .i64 0] 98) hk2 (fun e => hmne e.symm)
          have o0 := hBQ.cell (v := (.bool false)) 0 rfl
          have o1 := hBQ.cell (v := (.int .i64 0)) 1 rfl
          have o2 := hBQ.cell (v := (.int .i64 0)) 2 rfl
          have o3 := hBQ.cell (v := (.int .i64 0)) 3 rfl
          have o4 := hBQ.cell (v := (.int .i64 0)) 4 rfl
          have o5 := hBQ.cell (v := (.int .i64 0)) 5 rfl
          have o6 := hBQ.cell (v := (.slice none 0 0)) 6 rfl
          have o7 := hBQ.cell (v := (.int .i64 0)) 7 rfl
          have ol := hBQ.lt
          have ot := hBQ.thaw
          have hS8 := ((((((((hS3.set (p := ⟨W7.heap.size, 0, none⟩) (.bool sf.ok) (.inr (Nat.le_refl _))).set (p := ⟨W7.heap.size, 1, none⟩) (.int .i64 sf.cost) (.inr (Nat.le_refl _))).set (p := ⟨W7.heap.size, 2, none⟩) (.int .i64 h2.rule) (.inr (Nat.le_refl _))).set (p := ⟨W7.heap.size, 3, none⟩) (.int .i64 h2.item) (.inr (Nat.le_refl _))).set (p := ⟨W7.heap.size, 4, none⟩) (.int .i64 h2.from_) (.inr (Nat.le_refl _))).set (p := ⟨W7.heap.size, 5, none⟩) (.int .i64 h2.until_) (.inr (Nat.le_refl _))).set (p := ⟨W7.heap.size, 6, none⟩) (.slice h2.kA h2.kids.length h2.kC) (.inr (Nat.le_refl _))).set (p := ⟨W7.heap.size, 7, none⟩) (.int .i64 sf.many) (.inr (Nat.le_refl _)))
          have hB8 := ((((((((hBQ.set 0 (.bool sf.ok) rfl).set 1 (.int .i64 sf.cost) rfl).set 2 (.int .i64 h2.rule) rfl).set 3 (.int .i64 h2.item) rfl).set 4 (.int .i64 h2.from_) rfl).set 5 (.int .i64 h2.until_) rfl).set 6 (.slice h2.kA h2.kids.length h2.kC) rfl).set 7 (.int .i64 sf.many) rfl)
          have hK8 := (((((((((KeptBut.refl (fun b => b = W7.heap.size) w9).set (p := ⟨W7.heap.size, 0, none⟩) (.bool sf.ok) (.inl rfl)).set (p := ⟨W7.heap.size, 1, none⟩) (.int .i64 sf.cost) (.inl rfl)).set (p := ⟨W7.heap.size, 2, none⟩) (.int .i64 h2.rule) (.inl rfl)).set (p := ⟨W7.heap.size, 3, none⟩) (.int .i64 h2.item) (.inl rfl)).set (p := ⟨W7.heap.size, 4, none⟩) (.int .i64 h2.from_) (.inl rfl)).set (p := ⟨W7.heap.size, 5, none⟩) (.int .i64 h2.until_) (.inl rfl)).set (p := ⟨W7.heap.size, 6, none⟩) (.slice h2.kA h2.kids.length h2.kC) (.inl rfl)).set (p := ⟨W7.heap.size, 7, none⟩) (.int .i64 sf.many) (.inl rfl))
          refine wpAnyH_ready (rs := [11]) (by kernel_rfl) (by simp) (AllReadyH.cons rfl (fun K hK => ?_) AllReadyH.nil)
          go_simp
          refine hK.out _ _ hS8 (fun hHeld4 => ?_)
          clear hK K
          (try simp only [Act.put, List.setIfInBounds_toArray, List.set_cons_zero, List.set_cons_succ])
          have hT8 := KeepT.ofBlk (X := (fun b => (X b ∨ O' b) ∨ v.ownBlock = some b)) hBQ (by decide) hK8
          refine wpAnyH_done (by kernel_rfl) ?_ _
          exact ⟨h2, W7.heap.size, by kernel_rfl, hB8, hfr2.keep hT8, hrl2.move hT8 (hK8.keep _ (hqlt hS3) (fun e => hqne e)) (hK8.keep _ (hmlt hS3) (fun e => hmne e)) (fun b hb => .inl hb), hS8, Nat.le_refl _⟩
        ·rintro a' w8 ⟨h2, b16, ha, hb16, hf2, hrl2, hk8, hge⟩
         generalize a'.tmps.getD 58 undef = y58 at ha
         generalize a'.tmps.getD 59 undef = y59 at ha
         generalize a'.tmps.getD 60 undef = y60 at ha
         generalize a'.tmps.getD 61 undef = y61 at ha
         generalize a'.tmps.getD 62 undef = y62 at ha
         generalize a'.tmps.getD 63 undef = y63 at ha
         generalize a'.tmps.getD 64 undef = y64 at ha
         generalize a'.tmps.getD 65 undef = y65 at ha
         generalize a'.tmps.getD 66 undef = y66 at ha
         generalize a'.tmps.getD 67 undef = y67 at ha
         simp only [Act.put, List.setIfInBounds_toArray, List.set_cons_zero, List.set_cons_succ] at ha
         subst ha
         have s0 := hb16.cell (v := .bool sf.ok) 0 rfl
         have sl := hb16.lt
         have HB16 := hide hb16
         have HF2 := hide hf2
         have HRL2 := hide hrl2
         have HK8 := hide hk8
         have HNC := hide (show ∀ cs ty fz, W7.heap[mk]? ≠ some (.cells cs ty fz) by obtain ⟨_, _, _, _, e3, _⟩ := HRL.out; exact e3.notcells)
         have hz8 := hk8.size
         clear hb16 hf2 hrl2 HRL HB15 HFIND HF7
         cases hok : sf.ok
         ·have hnone : kidsGo F r.parts ends f r.cost 1 [] = none := HKG.out.trans (by rw [hde]; exact kids_no hcat (by rw [← HSF.out]; exact hok))
          have hxx : enGo F r.parts r.cost k f u (laysL (hasW ws) r.parts f u) (rlGo (g.rules.map RuleH.m) (hasW ws) F r.catNo f u x0 k) (j + 1) = (enGo F r.parts r.cost k f u (laysL (hasW ws) r.parts f u) (rlGo (g.rules.map RuleH.m) (hasW ws) F r.catNo f u x0 k) j) := by
           rw [HJX.out]; unfold enStep; rw [hnone]; rfl
          rw [hok] at s0
          have HFIN := hide (fin85 (x' := enGo F r.parts r.cost k f u (laysL (hasW ws) r.parts f u) (rlGo (g.rules.map RuleH.m) (hasW ws) F r.catNo f u x0 k) (j + 1)) (start := W3.heap.size) (kb := W.heap.size) HLOW.out HI5.out HOB.out (by omega) (by omega) (by omega) (wp := w8) ((((KeptBut.of_below HB6.out).trans (HK7.out.mono fun b hb => by rcases hb with h | h; exact .inl h; exact .inr (.inr h))).trans (HK8.out.mono fun b hb => .inl hb))) (by
           rw [hxx]
           exact HRL2.out.move (KeepT.refl _ _) rfl rfl fun b hb => .inl (.inl hb)))
          clear hnone hxx HKG HKB HOW HTR HTY HB16 HF2 HRL2 HEC HM7 HBC
          gi_wp2
          exact HFIN.out
         ·rw [hok] at s0
          obtain ⟨t2, ht2, htr2⟩ := HF2.out.yes hok
          have hsfe : sf = ⟨true, sf.cost, some t2, sf.many⟩ := by
           cases sf
           simp only at hok ht2
           subst hok ht2
           rfl
          have hkg2 : kidsGo F r.parts ends f r.cost 1 [] = kidsGo F (r.parts.drop (pi + 1)) (ends.drop (kk + 1)) m (wrap64 (cost + sf.cost)) (timesM many sf.many) (ks ++ [t2]) := by
           rw [HKG.out, hde, hde', wrp64]
           exact kids_yes hcat (by rw [← HSF.out]; exact hsfe)
          have HKG2 := hide hkg2
          obtain ⟨A2, c3, hve, hslv⟩ := HOW.out.sl
          generalize hn2 : kids.length = n2 at hve
          have HN2 := hide hn2
          subst hve
          have hrow : ∀ gg, (Value.slice A2 n2 c3).ownBlock = some gg → W6.heap.size ≤ gg ∧ gg < W7.heap.size := fun gg hg => ⟨(HOW.out.blk hg).1, (HOW.out.blk hg).2.1⟩
          have own8 : OwnL treeC 5 52 w8 W6.heap.size (.slice A2 n2 c3) kids := HOW.out.keep fun gg hg => HK8.out.keep gg (hrow gg hg).2 fun e => by have := (hrow gg hg).1; omega
          have hkb8 : Blk w8 W.heap.size 50 #[.slice A2 n2 c3] := Blk.but HKB.out HK8.out (by omega)
          obtain ⟨i5, hi5, hz50, hz51, hz52⟩ := info_parts Tryz_infoT52
          have hnks := HTY.out
          obtain ⟨v9, w9, hrun, hO9, hg9, hat9⟩ := run_extend (P := Tryz.prog) (w := w8.drew.alloc (.cells #[.int .i64 h2.rule, .int .i64 h2.item, .int .i64 h2.from_, .int .i64 h2.until_, .slice h2.kA h2.kids.length h2.kC] 52)) (f := treeC) (t := 50) (ty := 50) (base := W6.heap.size) (l1 := kids) (l2 := [h2]) Tryz.underlying50 hi5 hz50 hz51 hz52 rfl (by decide) (own8.drew.alloc _) (Sl.one (c := 1) (Blk.new w8.drew #[.int .i64 h2.rule, .int .i64 h2.item, .int .i64 h2.from_, .int .i64 h2.until_, .slice h2.kA h2.kids.length h2.kC] 52) rfl rfl (by decide) (by decide)) (ones52 [h2]) (by rw [List.length_singleton]; unfold maxLen; omega) (by rw [List.length_singleton]; omega) (by have h : (w8.drew.alloc (.cells #[.int .i64 h2.rule, .int .i64 h2.item, .int .i64 h2.from_, .int .i64 h2.until_, .slice h2.kA h2.kids.length h2.kC] 52)).heap.size = w8.heap.size + 1 := World.size_alloc w8.drew _; rw [h]; omega)
          obtain ⟨A9, c9, hv9, hsl9⟩ := hO9.sl
          generalize hn9 : (kids ++ [h2]).length = n9 at hv9
          subst hv9
          have HRUN := hide hrun
          have hwd : (w8.drew.alloc (.cells #[.int .i64 h2.rule, .int .i64 h2.item, .int .i64 h2.from_, .int .i64 h2.until_, .slice h2.kA h2.kids.length h2.kC] 52)).heap.size = w8.heap.size + 1 := World.size_alloc w8.drew _
          rw [hwd] at hat9
          have hX9 : Blk w9 W.heap.size 50 #[.slice A2 n2 c3] := (hkb8.drew.alloc _).grown hg9 (fun e => by have := (hrow _ e.symm).1; omega)
          have HS0 : Hid (KeptBut (fun b => b = W.heap.size ∨ (Value.slice A2 n2 c3).ownBlock = some b) w8 w8.drew) := hide (KeptBut.refl _ _).drew
          have HS1 := hide (HS0.out.alloc (.cells #[.int .i64 h2.rule, .int .i64 h2.item, .int .i64 h2.from_, .int .i64 h2.until_, .slice h2.kA h2.kids.length h2.kC] 52))
          have HS9 := hide (HS1.out.grown hg9 (fun g hg => .inl (.inr hg)))
          have HS10 := hide (HS9.out.set (p := ⟨W.heap.size, 0, none⟩) (.slice A9 n9 c9) (.inl (.inl rfl)))
          have hn16 : ¬ (b16 = W.heap.size ∨ (Value.slice A2 n2 c3).ownBlock = some b16) := fun h => by
           rcases h with h | h
           ·omega
           ·have := (hrow _ h).2; omega
          have hkt : KeepT (fun b => (X b ∨ O' b) ∨ (Value.slice A2 n2 c3).ownBlock = some b) w8 (w9.setCell ⟨W.heap.size, 0, none⟩ (.slice A9 n9 c9)) := KeepT.but HS10.out fun b hb => by
           rcases hb with hb | hb
           ·subst hb
            exact .inr fun cs fz e => by rw [hkb8.at_] at e; simp at e
           ·exact .inl (.inr hb)
          have hmv : ∀ b, ((X b ∨ O' b) ∨ (Value.slice A9 n9 c9).ownBlock = some b) → ((X b ∨ O' b) ∨ (Value.slice A2 n2 c3).ownBlock = some b) ∨ w8.heap.size ≤ b := fun b hb => by
           rcases hb with hb | hb
           ·exact .inl (.inl hb)
           ·rcases hat9 b hb with h | h
            ·exact .inl (.inr h)
            ·exact .inr (by omega)
          have HPF : Hid (Pt85 mk W.heap.size q G F M (r.catNo, f, u) (fun b => X b ∨ O' b) m0 (enGo F r.parts r.cost k f u (laysL (hasW ws) r.parts f u) (rlGo (g.rules.map RuleH.m) (hasW ws) F r.catNo f u x0 k) j) (hasW ws) r.parts ends f u r.cost W6 (pi + 1) (kk + 1) m (wrap64 (cost + sf.cost)) (timesM many sf.many) (w9.setCell ⟨W.heap.size, 0, none⟩ (.slice A9 n9 c9))) := hide ⟨ks ++ [t2], kids ++ [h2], .slice A9 n9 c9, ⟨HKG2.out, by rw [hde']; exact hl', by omega, by omega⟩, hX9.set 0 _ rfl,
           hO9.keep (fun gg hg => Below.heap_setCell _ _ _ _ (by have := (hO9.blk hg).1; dsimp only; omega)), ⟨by simp [hnks], by simp; omega⟩, fun jj h t h1 h2' => by
            by_cases hjj : jj < kids.length
            ·rw [List.getElem?_append_left hjj] at h1
             rw [List.getElem?_append_left (by omega)] at h2'
             exact ((HTR.out jj h t h1 h2').keep (KeepT.but HK8.out fun b hb => .inr fun cs fz e => by
              obtain ⟨_, _, e1, _, e3, _⟩ := HRL2.out
              obtain rfl : b = mk := hb
              exact absurd e (HNC.out cs 52 fz))).move hkt hmv
            ·rw [List.getElem?_append_right (by omega)] at h1
             rw [List.getElem?_append_right (by omega)] at h2'
             have hj0 : jj - kids.length = 0 := by
              rcases Nat.lt_or_ge (jj - kids.length) 1 with h | h
              ·omega
              ·rw [List.getElem?_eq_none (by simpa using h)] at h1; cases h1
             rw [hj0] at h1
             rw [← hnks, hj0] at h2'
             simp at h1 h2'
             subst h1 h2'
             exact htr2.move hkt hmv,
           HRL2.out.move hkt (HS10.out.keep q (by omega) (fun h => by rcases h with h | h; omega; (have := (hrow _ h).1; omega))) (HS10.out.keep mk (by omega) (fun h => by rcases h with h | h; omega; (have := (hrow _ h).1; omega))) hmv,
           (((((HK7.out.trans (HK8.out.mono fun b hb => .inl hb)).drew.alloc _).grown hg9 (fun g hg => .inr (hrow g hg).1)).set (p := ⟨W.heap.size, 0, none⟩) (.slice A9 n9 c9) (.inl (.inr rfl))))⟩
          have xx0 := hX9.cell (v := .slice A2 n2 c3) 0 rfl
          have xl := hX9.lt
          have xt := hX9.thaw 0
          have k0 := hkb8.cell (v := .slice A2 n2 c3) 0 rfl
          have kl := hkb8.lt
          have ka := (hkb8.drew.alloc (.cells #[.int .i64 h2.rule, .int .i64 h2.item, .int .i64 h2.from_, .int .i64 h2.until_, .slice h2.kA h2.kids.length h2.kC] 52)).cell (v := .slice A2 n2 c3) 0 rfl
          clear hrun hO9 hg9 hat9 hsl9 hX9 hkt hmv hkb8 own8 hslv hi5 hz50 hz51 hz52 hwd hn9 hn2 hkg2 htr2 hsfe HKG HKB HOW HTR HTY HRL2 hnks
          gi_wp2_with fail
          refine wpIn_region_cut (ro := some lp) (S := fun w' => KeptBut (fun b => b = W.heap.size ∨ (Value.slice A2 n2 c3).ownBlock = some b) w8 w') (fun a a' w' => a' = (((((((((((((((a.put (some 71) (a'.tmps.getD 71 undef)).put (some 72) (a'.tmps.getD 72 undef)).put (some 73) (a'.tmps.getD 73 undef)).put (some 74) (a'.tmps.getD 74 undef)).put (some 75) (a'.tmps.getD 75 undef)).put (some 76) (a'.tmps.getD 76 undef)).put (some 77) (a'.tmps.getD 77 undef)).put (some 78) (a'.tmps.getD 78 undef)).put (some 79) (a'.tmps.getD 79 undef)).put (some 80) (a'.tmps.getD 80 undef)).put (some 81) (a'.tmps.getD 81 undef)).put (some 82) (a'.tmps.getD 82 undef)).put (some 83) (a'.tmps.getD 83 undef)).put (some 9) (.int .i64 (wrap64 (cost + sf.cost)))).put (some 10) (.int .i64 (timesM many sf.many))) ∧ Hid (Pt85 mk W.heap.size q G F M (r.catNo, f, u) (fun b => X b ∨ O' b) m0 (enGo F r.parts r.cost k f u (laysL (hasW ws) r.parts f u) (rlGo (g.rules.map RuleH.m) (hasW ws) F r.catNo f u x0 k) j) (hasW ws) r.parts ends f u r.cost W6 (pi + 1) (kk + 1) m (wrap64 (cost + sf.cost)) (timesM many sf.many) w')) (by kernel_rfl) (by kernel_rfl) (KeptBut.refl _ _).drew (fun hHeld => ?_) ?_
          ·(try simp only [Act.put, List.setIfInBounds_toArray, List.set_cons_zero, List.set_cons_succ])
           refine wpAnyH_take (i := 0) (v := ?_) rfl (by kernel_rfl) (by kernel_rfl) (by kernel_rfl) (fun _ _ _ h => h) (Or.inl ⟨by rfl, ?_⟩) (by assumption) ?_
           rotate_left
           ·intro w' hSw
            go_simp
            (try go_bits)
            try with_reducible rfl
           (try simp only [Act.put, List.setIfInBounds_toArray, List.set_cons_zero, List.set_cons_succ])
           refine wpAnyH_take (i := 1) (v := ?_) rfl (by kernel_rfl) (by kernel_rfl) (by kernel_rfl) (fun _ _ _ h => h) (Or.inl ⟨by rfl, ?_⟩) (by assumption) ?_
           rotate_left
           ·intro w' hSw
            go_simp
            (try go_bits)
            try with_reducible rfl
           (try simp only [Act.put, List.setIfInBounds_toArray, List.set_cons_zero, List.set_cons_succ])
           refine wpAnyH_take (i := 2) (v := ?_) rfl (by kernel_rfl) (by kernel_rfl) (by kernel_rfl) (fun _ _ _ h => h) (Or.inl ⟨by rfl, ?_⟩) (by assumption) ?_
           rotate_left
           ·intro w' hSw
            have m0 := (Blk.but HB16.out hSw hn16).cell (v := (.int .i64 sf.cost)) 1 rfl
            go_simp
            (try go_bits)
            try with_reducible rfl
           (try simp only [Act.put, List.setIfInBounds_toArray, List.set_cons_zero, List.set_cons_succ])
           refine wpAnyH_take (i := 3) (v := ?_) rfl (by kernel_rfl) (by kernel_rfl) (by kernel_rfl) (fun _ _ _ h => h) (Or.inl ⟨by rfl, ?_⟩) (by assumption) ?_
           rotate_left
           ·intro w' hSw
            go_simp
            (try go_bits)
            try with_reducible rfl
           (try simp only [Act.put, List.setIfInBounds_toArray, List.set_cons_zero, List.set_cons_succ])
           refine wpAnyH_take (i := 4) (v := ?_) rfl (by kernel_rfl) (by kernel_rfl) (by kernel_rfl) (fun _ _ _ h => h) (Or.inl ⟨by rfl, ?_⟩) (by assumption) ?_
           rotate_left
           ·intro w' hSw
            go_simp
            (try go_bits)
            try with_reducible rfl
           (try simp only [Act.put, List.setIfInBounds_toArray, List.set_cons_zero, List.set_cons_succ])
           refine wpAnyH_take (i := 5) (v := ?_) rfl (by kernel_rfl) (by kernel_rfl) (by kernel_rfl) (fun _ _ _ h => h) (Or.inl ⟨by rfl, ?_⟩) (by assumption) ?_
           rotate_left
           ·intro w' hSw
            go_simp
            (try go_bits)
            try with_reducible rfl
           (try simp only [Act.put, List.setIfInBounds_toArray, List.set_cons_zero, List.set_cons_succ])
           refine wpAnyH_take (i := 6) (v := ?_) rfl (by kernel_rfl) (by kernel_rfl) (by kernel_rfl) (fun _ _ _ h => h) (Or.inl ⟨by rfl, ?_⟩) (by assumption) ?_
           rotate_left
           ·intro w' hSw
            have m0 := (Blk.but HB16.out hSw hn16).cell (v := (.int .i64 sf.many)) 7 rfl
            go_simp
            (try go_bits)
            try with_reducible rfl
           (try simp only [Act.put, List.setIfInBounds_toArray, List.set_cons_zero, List.set_cons_succ])
           refine wpAnyH_take (i := 9) (v := ?_) rfl (by kernel_rfl) (by kernel_rfl) (by kernel_rfl) (fun _ _ _ h => h) (Or.inl ⟨by rfl, ?_⟩) (by assumption) ?_
           rotate_left
           ·intro w' hSw
            go_simp
            (try go_bits)
            try with_reducible rfl
           (try simp only [Act.put, List.setIfInBounds_toArray, List.set_cons_zero, List.set_cons_succ])
           refine wpAnyH_take (i := 10) (v := ?_) rfl (by kernel_rfl) (by kernel_rfl) (by kernel_rfl) (fun _ _ _ h => h) (Or.inl ⟨by rfl, ?_⟩) (by assumption) ?_
           rotate_left
           ·intro w' hSw
            have m0 := (Blk.but HB16.out hSw hn16).cell (v := (.int .i64 h2.rule)) 2 rfl
            have m1 := (Blk.but HB16.out hSw hn16).cell (v := (.int .i64 h2.item)) 3 rfl
            have m2 := (Blk.but HB16.out hSw hn16).cell (v := (.int .i64 h2.from_)) 4 rfl
            have m3 := (Blk.but HB16.out hSw hn16).cell (v := (.int .i64 h2.until_)) 5 rfl
            have m4 := (Blk.but HB16.out hSw hn16).cell (v := (.slice h2.kA h2.kids.length h2.kC)) 6 rfl
            go_simp
            (try go_bits)
            try with_reducible rfl
           (try simp only [Act.put, List.setIfInBounds_toArray, List.set_cons_zero, List.set_cons_succ])
           refine wpAnyH_ready (rs := [7, 8, 11]) (by kernel_rfl) (by simp) (AllReadyH.cons rfl (fun K hK => ?_) (AllReadyH.cons rfl (fun K hK => ?_) (AllReadyH.cons rfl (fun K hK => ?_) AllReadyH.nil)))
           ·go_simp
            refine (times111 many sf.many _).mono ?_
            rintro e wq ⟨rfl, rfl⟩
            (try go_simp)
            refine hK.out _ _ HS0.out (fun hHeldA => ?_)
            clear hK K
            (try simp only [Act.put, List.setIfInBounds_toArray, List.set_cons_zero, List.set_cons_succ])
            refine wpAnyH_ready (rs := [8, 11]) (by kernel_rfl) (by simp) (AllReadyH.cons rfl (fun K hK => ?_) (AllReadyH.cons rfl (fun K hK => ?_) AllReadyH.nil))
            ·go_simp
             refine hK.out _ _ HS0.out (fun hHeldB => ?_)
             clear hK K
             (try simp only [Act.put, List.setIfInBounds_toArray, List.set_cons_zero, List.set_cons_succ])
             refine wpAnyH_ready (rs := [11]) (by kernel_rfl) (by simp) (AllReadyH.cons rfl (fun K hK => ?_) AllReadyH.nil)
             go_simp
             refine hK.out _ _ HS1.out (fun hHeldC => ?_)
             clear hK K
             (try simp only [Act.put, List.setIfInBounds_toArray, List.set_cons_zero, List.set_cons_succ])
             refine wpAnyH_ready (rs := [12]) (by kernel_rfl) (by simp) (AllReadyH.cons rfl (fun K hK => ?_) AllReadyH.nil)
             refine step_append rfl (.tmp 79) (.tmp 82) 50 rfl rfl rfl (G := fun v' w' => v' = .slice A9 n9 c9 ∧ w' = w9) ⟨.slice A9 n9 c9, w9, HRUN.out, rfl, rfl⟩ ?_
             rintro _ _ ⟨rfl, rfl⟩
             refine hK.out _ _ HS9.out (fun hHeld9 => ?_)
             clear hK K
             (try simp only [Act.put, List.setIfInBounds_toArray, List.set_cons_zero, List.set_cons_succ])
             refine wpAnyH_ready (rs := [13]) (by kernel_rfl) (by simp) (AllReadyH.cons rfl (fun K hK => ?_) AllReadyH.nil)
             go_simp
             refine hK.out _ _ HS9.out (fun hHeld9 => ?_)
             clear hK K
             (try simp only [Act.put, List.setIfInBounds_toArray, List.set_cons_zero, List.set_cons_succ])
             refine wpAnyH_ready (rs := [14]) (by kernel_rfl) (by simp) (AllReadyH.cons rfl (fun K hK => ?_) AllReadyH.nil)
             go_simp
             refine hK.out _ _ HS9.out (fun hHeld9 => ?_)
             clear hK K
             (try simp only [Act.put, List.setIfInBounds_toArray, List.set_cons_zero, List.set_cons_succ])
             refine wpAnyH_ready (rs := [15]) (by kernel_rfl) (by simp) (AllReadyH.cons rfl (fun K hK => ?_) AllReadyH.nil)
             go_simp
             refine hK.out _ _ HS10.out (fun hHeld9 => ?_)
             clear hK K
             (try simp only [Act.put, List.setIfInBounds_toArray, List.set_cons_zero, List.set_cons_succ])
             refine wpAnyH_done (by kernel_rfl) ?_ _
             exact ⟨by kernel_rfl, HPF⟩
            ·go_simp
             refine hK.out _ _ HS1.out (fun hHeldC => ?_)
             clear hK K
             (try simp only [Act.put, List.setIfInBounds_toArray, List.set_cons_zero, List.set_cons_succ])
             refine wpAnyH_ready (rs := [8]) (by kernel_rfl) (by simp) (AllReadyH.cons rfl (fun K hK => ?_) AllReadyH.nil)
             go_simp
             refine hK.out _ _ HS1.out (fun hHeldB => ?_)
             clear hK K
             (try simp only [Act.put, List.setIfInBounds_toArray, List.set_cons_zero, List.set_cons_succ])
             refine wpAnyH_ready (rs := [12]) (by kernel_rfl) (by simp) (AllReadyH.cons rfl (fun K hK => ?_) AllReadyH.nil)
             refine step_append rfl (.tmp 79) (.tmp 82) 50 rfl rfl rfl (G := fun v' w' => v' = .slice A9 n9 c9 ∧ w' = w9) ⟨.slice A9 n9 c9, w9, HRUN.out, rfl, rfl⟩ ?_
             rintro _ _ ⟨rfl, rfl⟩
             refine hK.out _ _ HS9.out (fun hHeld9 => ?_)
             clear hK K
             (try simp only [Act.put, List.setIfInBounds_toArray, List.set_cons_zero, List.set_cons_succ])
             refine wpAnyH_ready (rs := [13]) (by kernel_rfl) (by simp) (AllReadyH.cons rfl (fun K hK => ?_) AllReadyH.nil)
             go_simp
             refine hK.out _ _ HS9.out (fun hHeld9 => ?_)
             clear hK K
             (try simp only [Act.put, List.setIfInBounds_toArray, List.set_cons_zero, List.set_cons_succ])
             refine wpAnyH_ready (rs := [14]) (by kernel_rfl) (by simp) (AllReadyH.cons rfl (fun K hK => ?_) AllReadyH.nil)
             go_simp
             refine hK.out _ _ HS9.out (fun hHeld9 => ?_)
             clear hK K
             (try simp only [Act.put, List.setIfInBounds_toArray, List.set_cons_zero, List.set_cons_succ])
             refine wpAnyH_ready (rs := [15]) (by kernel_rfl) (by simp) (AllReadyH.cons rfl (fun K hK => ?_) AllReadyH.nil)
             go_simp
             refine hK.out _ _ HS10.out (fun hHeld9 => ?_)
             clear hK K
             (try simp only [Act.put, List.setIfInBounds_toArray, List.set_cons_zero, List.set_cons_succ])
             refine wpAnyH_done (by kernel_rfl) ?_ _
             exact ⟨by kernel_rfl, HPF⟩
           ·go_simp
            refine hK.out _ _ HS0.out (fun hHeldB => ?_)
            clear hK K
            (try simp only [Act.put, List.setIfInBounds_toArray, List.set_cons_zero, List.set_cons_succ])
            refine wpAnyH_ready (rs := [7, 11]) (by kernel_rfl) (by simp) (AllReadyH.cons rfl (fun K hK => ?_) (AllReadyH.cons rfl (fun K hK => ?_) AllReadyH.nil))
            ·go_simp
             refine (times111 many sf.many _).mono ?_
             rintro e wq ⟨rfl, rfl⟩
             (try go_simp)
             refine hK.out _ _ HS0.out (fun hHeldA => ?_)
             clear hK K
             (try simp only [Act.put, List.setIfInBounds_toArray, List.set_cons_zero, List.set_cons_succ])
             refine wpAnyH_ready (rs := [11]) (by kernel_rfl) (by simp) (AllReadyH.cons rfl (fun K hK => ?_) AllReadyH.nil)
             go_simp
             refine hK.out _ _ HS1.out (fun hHeldC => ?_)
             clear hK K
             (try simp only [Act.put, List.setIfInBounds_toArray, List.set_cons_zero, List.set_cons_succ])
             refine wpAnyH_ready (rs := [12]) (by kernel_rfl) (by simp) (AllReadyH.cons rfl (fun K hK => ?_) AllReadyH.nil)
             refine step_append rfl (.tmp 79) (.tmp 82) 50 rfl rfl rfl (G := fun v' w' => v' = .slice A9 n9 c9 ∧ w' = w9) ⟨.slice A9 n9 c9, w9, HRUN.out, rfl, rfl⟩ ?_
             rintro _ _ ⟨rfl, rfl⟩
             refine hK.out _ _ HS9.out (fun hHeld9 => ?_)
             clear hK K
             (try simp only [Act.put, List.setIfInBounds_toArray, List.set_cons_zero, List.set_cons_succ])
             refine wpAnyH_ready (rs := [13]) (by kernel_rfl) (by simp) (AllReadyH.cons rfl (fun K hK => ?_) AllReadyH.nil)
             go_simp
             refine hK.out _ _ HS9.out (fun hHeld9 => ?_)
             clear hK K
             (try simp only [Act.put, List.setIfInBounds_toArray, List.set_cons_zero, List.set_cons_succ])
             refine wpAnyH_ready (rs := [14]) (by kernel_rfl) (by simp) (AllReadyH.cons rfl (fun K hK => ?_) AllReadyH.nil)
             go_simp
             refine hK.out _ _ HS9.out (fun hHeld9 => ?_)
             clear hK K
             (try simp only [Act.put, List.setIfInBounds_toArray, List.set_cons_zero, List.set_cons_succ])
             refine wpAnyH_ready (rs := [15]) (by kernel_rfl) (by simp) (AllReadyH.cons rfl (fun K hK => ?_) AllReadyH.nil)
             go_simp
             refine hK.out _ _ HS10.out (fun hHeld9 => ?_)
             clear hK K
             (try simp only [Act.put, List.setIfInBounds_toArray, List.set_cons_zero, List.set_cons_succ])
             refine wpAnyH_done (by kernel_rfl) ?_ _
             exact ⟨by kernel_rfl, HPF⟩
            ·go_simp
             refine hK.out _ _ HS1.out (fun hHeldC => ?_)
             clear hK K
             (try simp only [Act.put, List.setIfInBounds_toArray, List.set_cons_zero, List.set_cons_succ])
             refine wpAnyH_ready (rs := [7]) (by kernel_rfl) (by simp) (AllReadyH.cons rfl (fun K hK => ?_) AllReadyH.nil)
             go_simp
             refine (times111 many sf.many _).mono ?_
             rintro e wq ⟨rfl, rfl⟩
             (try go_simp)
             refine hK.out _ _ HS1.out (fun hHeldA => ?_)
             clear hK K
             (try simp only [Act.put, List.setIfInBounds_toArray, List.set_cons_zero, List.set_cons_succ])
             refine wpAnyH_ready (rs := [12]) (by kernel_rfl) (by simp) (AllReadyH.cons rfl (fun K hK => ?_) AllReadyH.nil)
             refine step_append rfl (.tmp 79) (.tmp 82) 50 rfl rfl rfl (G := fun v' w' => v' = .slice A9 n9 c9 ∧ w' = w9) ⟨.slice A9 n9 c9, w9, HRUN.out, rfl, rfl⟩ ?_
             rintro _ _ ⟨rfl, rfl⟩
             refine hK.out _ _ HS9.out (fun hHeld9 => ?_)
             clear hK K
             (try simp only [Act.put, List.setIfInBounds_toArray, List.set_cons_zero, List.set_cons_succ])
             refine wpAnyH_ready (rs := [13]) (by kernel_rfl) (by simp) (AllReadyH.cons rfl (fun K hK => ?_) AllReadyH.nil)
             go_simp
             refine hK.out _ _ HS9.out (fun hHeld9 => ?_)
             clear hK K
             (try simp only [Act.put, List.setIfInBounds_toArray, List.set_cons_zero, List.set_cons_succ])
             refine wpAnyH_ready (rs := [14]) (by kernel_rfl) (by simp) (AllReadyH.cons rfl (fun K hK => ?_) AllReadyH.nil)
             go_simp
             refine hK.out _ _ HS9.out (fun hHeld9 => ?_)
             clear hK K
             (try simp only [Act.put, List.setIfInBounds_toArray, List.set_cons_zero, List.set_cons_succ])
             refine wpAnyH_ready (rs := [15]) (by kernel_rfl) (by simp) (AllReadyH.cons rfl (fun K hK => ?_) AllReadyH.nil)
             go_simp
             refine hK.out _ _ HS10.out (fun hHeld9 => ?_)
             clear hK K
             (try simp only [Act.put, List.setIfInBounds_toArray, List.set_cons_zero, List.set_cons_succ])
             refine wpAnyH_done (by kernel_rfl) ?_ _
             exact ⟨by kernel_rfl, HPF⟩
           ·go_simp
            refine hK.out _ _ HS1.out (fun hHeldC => ?_)
            clear hK K
            (try simp only [Act.put, List.setIfInBounds_toArray, List.set_cons_zero, List.set_cons_succ])
            refine wpAnyH_ready (rs := [7, 8]) (by kernel_rfl) (by simp) (AllReadyH.cons rfl (fun K hK => ?_) (AllReadyH.cons rfl (fun K hK => ?_) AllReadyH.nil))
            ·go_simp
             refine (times111 many sf.many _).mono ?_
             rintro e wq ⟨rfl, rfl⟩
             (try go_simp)
             refine hK.out _ _ HS1.out (fun hHeldA => ?_)
             clear hK K
             (try simp only [Act.put, List.setIfInBounds_toArray, List.set_cons_zero, List.set_cons_succ])
             refine wpAnyH_ready (rs := [8]) (by kernel_rfl) (by simp) (AllReadyH.cons rfl (fun K hK => ?_) AllReadyH.nil)
             go_simp
             refine hK.out _ _ HS1.out (fun hHeldB => ?_)
             clear hK K
             (try simp only [Act.put, List.setIfInBounds_toArray, List.set_cons_zero, List.set_cons_succ])
             refine wpAnyH_ready (rs := [12]) (by kernel_rfl) (by simp) (AllReadyH.cons rfl (fun K hK => ?_) AllReadyH.nil)
             refine step_append rfl (.tmp 79) (.tmp 82) 50 rfl rfl rfl (G := fun v' w' => v' = .slice A9 n9 c9 ∧ w' = w9) ⟨.slice A9 n9 c9, w9, HRUN.out, rfl, rfl⟩ ?_
             rintro _ _ ⟨rfl, rfl⟩
             refine hK.out _ _ HS9.out (fun hHeld9 => ?_)
             clear hK K
             (try simp only [Act.put, List.setIfInBounds_toArray, List.set_cons_zero, List.set_cons_succ])
             refine wpAnyH_ready (rs := [13]) (by kernel_rfl) (by simp) (AllReadyH.cons rfl (fun K hK => ?_) AllReadyH.nil)
             go_simp
             refine hK.out _ _ HS9.out (fun hHeld9 => ?_)
             clear hK K
             (try simp only [Act.put, List.setIfInBounds_toArray, List.set_cons_zero, List.set_cons_succ])
             refine wpAnyH_ready (rs := [14]) (by kernel_rfl) (by simp) (AllReadyH.cons rfl (fun K hK => ?_) AllReadyH.nil)
             go_simp
             refine hK.out _ _ HS9.out (fun hHeld9 => ?_)
             clear hK K
             (try simp only [Act.put, List.setIfInBounds_toArray, List.set_cons_zero, List.set_cons_succ])
             refine wpAnyH_ready (rs := [15]) (by kernel_rfl) (by simp) (AllReadyH.cons rfl (fun K hK => ?_) AllReadyH.nil)
             go_simp
             refine hK.out _ _ HS10.out (fun hHeld9 => ?_)
             clear hK K
             (try simp only [Act.put, List.setIfInBounds_toArray, List.set_cons_zero, List.set_cons_succ])
             refine wpAnyH_done (by kernel_rfl) ?_ _
             exact ⟨by kernel_rfl, HPF⟩
            ·go_simp
             refine hK.out _ _ HS1.out (fun hHeldB => ?_)
             clear hK K
             (try simp only [Act.put, List.setIfInBounds_toArray, List.set_cons_zero, List.set_cons_succ])
             refine wpAnyH_ready (rs := [7]) (by kernel_rfl) (by simp) (AllReadyH.cons rfl (fun K hK => ?_) AllReadyH.nil)
             go_simp
             refine (times111 many sf.many _).mono ?_
             rintro e wq ⟨rfl, rfl⟩
             (try go_simp)
             refine hK.out _ _ HS1.out (fun hHeldA => ?_)
             clear hK K
             (try simp only [Act.put, List.setIfInBounds_toArray, List.set_cons_zero, List.set_cons_succ])
             refine wpAnyH_ready (rs := [12]) (by kernel_rfl) (by simp) (AllReadyH.cons rfl (fun K hK => ?_) AllReadyH.nil)
             refine step_append rfl (.tmp 79) (.tmp 82) 50 rfl rfl rfl (G := fun v' w' => v' = .slice A9 n9 c9 ∧ w' = w9) ⟨.slice A9 n9 c9, w9, HRUN.out, rfl, rfl⟩ ?_
             rintro _ _ ⟨rfl, rfl⟩
             refine hK.out _ _ HS9.out (fun hHeld9 => ?_)
             clear hK K
             (try simp only [Act.put, List.setIfInBounds_toArray, List.set_cons_zero, List.set_cons_succ])
             refine wpAnyH_ready (rs := [13]) (by kernel_rfl) (by simp) (AllReadyH.cons rfl (fun K hK => ?_) AllReadyH.nil)
             go_simp
             refine hK.out _ _ HS9.out (fun hHeld9 => ?_)
             clear hK K
             (try simp only [Act.put, List.setIfInBounds_toArray, List.set_cons_zero, List.set_cons_succ])
             refine wpAnyH_ready (rs := [14]) (by kernel_rfl) (by simp) (AllReadyH.cons rfl (fun K hK => ?_) AllReadyH.nil)
             go_simp
             refine hK.out _ _ HS9.out (fun hHeld9 => ?_)
             clear hK K
             (try simp only [Act.put, List.setIfInBounds_toArray, List.set_cons_zero, List.set_cons_succ])
             refine wpAnyH_ready (rs := [15]) (by kernel_rfl) (by simp) (AllReadyH.cons rfl (fun K hK => ?_) AllReadyH.nil)
             go_simp
             refine hK.out _ _ HS10.out (fun hHeld9 => ?_)
             clear hK K
             (try simp only [Act.put, List.setIfInBounds_toArray, List.set_cons_zero, List.set_cons_succ])
             refine wpAnyH_done (by kernel_rfl) ?_ _
             exact ⟨by kernel_rfl, HPF⟩
          ·rintro a' w10 ⟨ha, HP18⟩
           generalize a'.tmps.getD 71 undef = z71 at ha
           generalize a'.tmps.getD 72 undef = z72 at ha
           generalize a'.tmps.getD 73 undef = z73 at ha
           generalize a'.tmps.getD 74 undef = z74 at ha
           generalize a'.tmps.getD 75 undef = z75 at ha
           generalize a'.tmps.getD 76 undef = z76 at ha
           generalize a'.tmps.getD 77 undef = z77 at ha
           generalize a'.tmps.getD 78 undef = z78 at ha
           generalize a'.tmps.getD 79 undef = z79 at ha
           generalize a'.tmps.getD 80 undef = z80 at ha
           generalize a'.tmps.getD 81 undef = z81 at ha
           generalize a'.tmps.getD 82 undef = z82 at ha
           generalize a'.tmps.getD 83 undef = z83 at ha
           simp only [Act.put, List.setIfInBounds_toArray, List.set_cons_zero, List.set_cons_succ] at ha
           subst ha
           have m0 : w10.cell? ⟨eb, eo + kk, none⟩ = some (.int .i64 m) := by
            obtain ⟨_, _, _, _, _, _, _, _, _, hkp⟩ := HP18.out
            exact HEC.out w10 hkp
           have hebl : eb < w10.heap.size := by
            obtain ⟨_, _, _, _, _, _, _, _, _, hkp⟩ := HP18.out
            exact Nat.lt_of_lt_of_le hebw hkp.size
           clear HPF HS0 HS1 HS9 HS10 HRUN xx0 xl xt k0 kl ka HB16 s0 sl HEC HM7 HBC
           gi_wp2
           go_roundw
           case rel => exact ⟨pi + 1, kk + 1, m, _, _, rfl, rfl, rfl, by go_num, by go_num, by omega, HP18⟩
           case measure => simp [Go.Mine.nI]; omega
       ·have hcat : p.isCat = false := by unfold PartM.isCat; exact decide_eq_false hpc
        have g2 := str_ne hpc
        obtain ⟨hl1, hl2⟩ := lay_text hcat hlay
        have HP7 : Hid (Pt85 mk W.heap.size q G F M (r.catNo, f, u) (fun b => X b ∨ O' b) m0 (enGo F r.parts r.cost k f u (laysL (hasW ws) r.parts f u) (rlGo (g.rules.map RuleH.m) (hasW ws) F r.catNo f u x0 k) j) (hasW ws) r.parts ends f u r.cost W6 (pi + 1) kk (at_ + 1) cost many W7) := hide ⟨ks, kids, v, ⟨by rw [HKG.out, kids_text hcat], hl1, by omega, hkk⟩, HKB.out, HOW.out, ⟨HTY.out, by omega⟩, HTR.out, HRL.out, HK7.out⟩
        clear hlay hl1 HKG HKB HOW HTR HRL HK7 HF7 HB15 HTY hpc hcat
        rw [hW7] at HP7
        clear hW7 hz7 HB7
        gi_wp2
        go_roundw
        case rel => exact ⟨pi + 1, kk, at_ + 1, cost, many, by go_num, by go_num, by go_num, by go_num, by go_num, by omega, HP7⟩
        case measure => simp [Go.Mine.nI]; omega
      ·obtain rfl : pi = r.parts.length := by omega
       obtain ⟨ks, kids, v, ⟨hkg, hlay, hat, hkk⟩, hkb, hown, ⟨hkl, hkp⟩, htr, hrl, hkeep⟩ := HPT.out
       rw [List.drop_of_length_le (Nat.le_refl _)] at hkg hlay
       rw [kids_nil] at hkg
       have hxx : enGo F r.parts r.cost k f u (laysL (hasW ws) r.parts f u) (rlGo (g.rules.map RuleH.m) (hasW ws) F r.catNo f u x0 k) (j + 1) = if 0 < many then (enGo F r.parts r.cost k f u (laysL (hasW ws) r.parts f u) (rlGo (g.rules.map RuleH.m) (hasW ws) F r.catNo f u x0 k) j).take cost many (.node k f u ks) else (enGo F r.parts r.cost k f u (laysL (hasW ws) r.parts f u) (rlGo (g.rules.map RuleH.m) (hasW ws) F r.catNo f u x0 k) j) := by
        rw [HJX.out]; unfold enStep; rw [hkg]; rfl
       have hk56 : KeptBut (fun b => b = mk ∨ b = q ∨ b = W.heap.size) W5 wr := (KeptBut.of_below HB6.out).trans (hkeep.mono fun b hb => by rcases hb with h | h; exact .inl h; exact .inr (.inr h))
       by_cases hm0 : 0 < many
       ·rw [if_pos hm0] at hxx
        obtain ⟨A2, c3, hve, hslv⟩ := hown.sl
        generalize hn2 : kids.length = n2 at hve
        subst hve
        obtain ⟨h1, m1, e1, e2, e3, e4⟩ := hrl
        have hqw : q < w.heap.size := hql
        have hmw := HLOW.out.mk_
        have hlob := HLOW.out.b
        have hrow : ∀ gg, (Value.slice A2 n2 c3).ownBlock = some gg → W6.heap.size ≤ gg := fun gg hg => (hown.blk hg).1
        have hYlt : ∀ b, (X b ∨ O' b) → b < W6.heap.size := fun b hb => by
         rcases hb with h | h
         ·have := HX.out b h; omega
         ·have := (HOB.out b h).2; omega
        have hbx := HBX6.out.keep (W' := wr) fun x hx => hkeep.keep x (by omega) (fun h => by omega)
        have hib : Blk wr wo.heap.size 3 #[.int .i64 k] := Blk.but (HI5.out.ib.bel HB6.out) hkeep (fun h => by omega)
        have KT := take108 q _ h1 ⟨k, -1, f, u, A2, c3, kids⟩ cost many 112 #[.pointer (some ⟨wo.heap.size, 0, none⟩), .pointer (some ⟨w.heap.size + 1, 0, none⟩), .pointer (some ⟨W.heap.size, 0, none⟩)] e112 (.node k f u ks) wr e1 (fun W' hW' =>
         rule112 wo.heap.size (w.heap.size + 1) W.heap.size k r.catNo f u A2 c3 kids W' (Blk.but hib hW' (by omega)) (Blk.but hbx.g hW' (by omega)) (by rw [hn2]; exact Blk.but hkb hW' (by omega)))
        rw [← hxx] at KT
        replace KT := hide KT
        have b2 := hbx.q_.cell (v := .pointer (some ⟨q, 0, none⟩)) 0 rfl
        have bl2 := hbx.q_.lt
        have g5 : decide ((0 : Int) < many) = true := decide_eq_true hm0
        have HOW := hide hown
        have HTR := hide htr
        have HE2 := hide e2
        have HE3 := hide e3
        have HE4 := hide e4
        have HK56 := hide hk56
        have HKE := hide hkeep
        have HE1 := hide e1
        have HSLV := hide (show Sl treeC 5 wr A2 c3 kids from hslv)
        have HXX := hide hxx
        have HKL := hide hkl
        have HN2 := hide hn2
        clear hkg hlay hown htr e1 e2 e3 e4 hk56 hkeep hslv hxx hkb hib hbx HPT hkl hn2
        gi_wp2_with fail
        refine (callsIn_wideR KT.out).mono ?_
        rintro e w9 ⟨rfl, hq9, hk9⟩
        have hkt : KeepT (fun b => (X b ∨ O' b) ∨ (Value.slice A2 n2 c3).ownBlock = some b) wr w9 := KeepT.ofBlk HE1.out (by decide) hk9
        have hrt : RowT (fun b => X b ∨ O' b) wr A2 c3 kids := ⟨HSLV.out, fun a ha hn => by
          obtain ⟨_, _, cur, e⟩ := HOW.out.blk (g := a.block) (by rw [ha]; rfl)
          exact ⟨cur, _, e⟩, fun a ha hn hb => by
          have h1 := hrow a.block (by rw [ha]; rfl)
          have h2 := hYlt _ hb
          omega⟩
        have hkt' : KeepT (fun b => X b ∨ O' b) wr w9 := KeepT.ofBlk HE1.out (by decide) hk9
        have htree : TreeR (fun b => X b ∨ O' b) w9 ⟨k, -1, f, u, A2, c3, kids⟩ (.node k f u ks) := .node (hrt.keep hkt') HKL.out fun j h t h1 h2 => (HTR.out j h t h1 h2).move hkt fun b hb => .inl (.inl hb)
        have hrl9 : Rl85 mk q G F M (r.catNo, f, u) (fun b => X b ∨ O' b) m0 w9 (enGo F r.parts r.cost k f u (laysL (hasW ws) r.parts f u) (rlGo (g.rules.map RuleH.m) (hasW ws) F r.catNo f u x0 k) (j + 1)) := by
         refine ⟨_, m1, hq9, ?_, HE3.out.move (hk9.keep mk HE3.out.lt (by omega)) hkt (fun b hb => .inl (.inl hb)), HE4.out⟩
         rw [HXX.out]
         exact FoundR.take (HE2.out.more fun b hb => .inl (.inl hb)) hkt' htree
        have HFIN := hide (fin85 (start := W3.heap.size) (kb := W.heap.size) HLOW.out HI5.out HOB.out (by omega) (by omega) (by omega) (wp := w9) (HK56.out.trans (hk9.mono fun b hb => .inr (.inl hb))) hrl9)
        clear hq9 hk9 hkt hrt hkt' htree hrl9 KT b2 bl2 HOW HTR HE2 HE3 HE4 HK56 HKE HE1 HSLV HXX
        gi_wp2
        exact HFIN.out
       ·rw [if_neg hm0] at hxx
        have g5 : decide ((0 : Int) < many) = false := decide_eq_false hm0
        have hlob := HLOW.out.b
        have HFIN := hide (fin85 (x' := enGo F r.parts r.cost k f u (laysL (hasW ws) r.parts f u) (rlGo (g.rules.map RuleH.m) (hasW ws) F r.catNo f u x0 k) (j + 1)) (start := W3.heap.size) (kb := W.heap.size) HLOW.out HI5.out HOB.out (by omega) (by omega) (by omega) (wp := wr) hk56 (by
         rw [hxx]
         exact hrl.move (KeepT.refl _ _) rfl rfl fun b hb => .inl (.inl hb)))
        clear hkg hlay hkb hown htr hrl hkeep hxx hk56 HPT
        gi_wp2
        exact HFIN.out
    case done =>
     rintro O W _ hR hOb hD hOD hz
     have hMk := hR.marks.cons hD (by omega) (fun h => by have := HLOW.out.d _ h; have := HLOW.out.b; omega)
     have HMk := hide hMk
     have HKB' := hide hR.kb
     have HBX' := hide hR.bx
     have HZ' := hide (show w.heap.size + 3 ≤ W.heap.size by have := hR.size; have := HLOW.out.b; omega)
     have HRL' : Hid (Rl85 mk q G F M (r.catNo, f, u) X m0 W (rlGo (g.rules.map RuleH.m) (hasW ws) F r.catNo f u x0 (k + 1))) := hide (by
      rw [HS2.out]
      exact hR.rl.move (KeepT.refl _ _) rfl rfl fun b hb => .inl (.inl hb))
     clear hR hOb hD hOD hMk HIT HI0 HS2
     gi_wp2
     exact ⟨⟨k + 1, W3.heap.size :: ds, ⟨by omega, rfl⟩, by omega, HMk, HRL'⟩, by simp [Go.Mine.nI]; omega⟩
    case pan =>
     rintro c O W hch
     cases hch
    case stop =>
     rintro c O W h
     exact h.elim
   ·have g0 : (r.catNo == cat) = false := by simpa using hcat
    have g1 : (r.catNo != cat) = true := by rw [bne, g0]; rfl
    have HS2 := hide (HST.out.trans (if_neg hcat))
    have HRL2 : Hid (Rl85 mk q G F M (cat, f, u) X m0 ((wo.alloc (.cells #[.int .i64 k] 3)).alloc (.cells #[.string r.cat, .int .i64 r.catNo, .slice r.pA r.parts.length r.pC, .slice r.gA r.gives.length r.gC, .int .i64 r.cost] 111)) (rlGo (g.rules.map RuleH.m) (hasW ws) F cat f u x0 (k + 1))) := hide (by
     obtain ⟨h1, m1, e1, e2, e3, e4⟩ := HRL.out
     rw [HS2.out]
     exact ⟨h1, m1, e1.bel HW1.out, e2.keep (KeepT.bel HW1.out), e3.keep (HW1.out.block _ e3.lt) (KeepT.bel HW1.out), e4⟩)
    have HM2 := hide (HM.out.bel HW1.out)
    have HKB2 := hide (HKB.out.below HW1.out)
    have HBX2 := hide (HBX.out.bel HW1.out)
    have HZ2 := hide (Nat.le_trans HZ.out HW1.out.size)
    clear HST HS2 HW1 HRL HM HKB HBX HZ hcat
    gi_wp2
    exact ⟨⟨k + 1, ds, by kernel_rfl, by omega, HM2, HKB2, HBX2, HZ2, HRL2⟩, by simp [Go.Mine.nI]; omega⟩
  ·obtain rfl : k = g.rules.length := by omega
   have hrl := HRL.out
   rw [← HLM.out, HALL.out] at hrl
   have HRF := hide hrl
   clear hrl HRL
   gi_wp2
   refine leaves_all HM.out fun w' st hz' => ⟨.tuple #[], results_none rfl _ _ _, rfl, ?_, ?_⟩
   ·have hks : KeptBut (fun b => b = mk ∨ b = q) wo w' ∨ True := .inr trivial
    exact ⟨st.os.trans HKB.out.os, st.tape.trans HKB.out.tape, st.output.trans HKB.out.output, Nat.le_trans HKB.out.size (Nat.le_of_eq hz'.symm), fun b hb hn => (st.keep b (Nat.lt_of_lt_of_le hb HKB.out.size) (fun h => by have := HM.out.low b h; omega)).trans (HKB.out.keep b hb hn)⟩
   ·obtain ⟨h1, m1, e1, e2, e3, e4⟩ := HRF.out
    have hkt : KeepT X wo w' := ⟨Nat.le_of_eq hz'.symm, fun b cs fz _ e => st.keep b (Array.getElem?_eq_some_iff.1 e).1 (fun h => by rw [HM.out.open_ b h] at e; cases e)⟩
    exact ⟨h1, m1, Blk.heap e1 (st.keep q e1.lt (fun h => by have := HM.out.low q h; omega)), e2.keep hkt, e3.keep (st.keep mk e3.lt (fun h => by have := HM.out.low mk h; omega)) hkt, e4⟩
end Go.Proofs.YtkfdafeonhnloaaGreatDoor
