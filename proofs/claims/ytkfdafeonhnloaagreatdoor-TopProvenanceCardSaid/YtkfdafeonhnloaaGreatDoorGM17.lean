/-
  chart: take, and the two closures that make a derivation.
  chart.phrases.
  chart.lays: the ways to lay parts on words, as an iterator.
  chart.lays: the closure that lays.
-/
import Derived.Test.YtkfdafeonhnloaaGreatDoorGM16
import Derived.Test.YtkfdafeonhnloaaGreatDoorGM9
namespace Go.Mine.C
open Go.RowKit Go.Mine
def betterB (x : Found) (cost : Int) : Bool := !x.ok || decide (cost < x.cost)
def takeH (x : Found) (cost : Int) (h h' : TreeH) : TreeH := if betterB x cost = true then h' else h
theorem take_yes {x : Found} {cost many : Int} {t : Tree} (h : betterB x cost = true) : x.take cost many t = ⟨true, cost, some t, min (wrp (x.many + many)) 1099511627777⟩ := by
 unfold Found.take
 rw [if_pos]
 unfold betterB at h
 simpa using h
theorem take_no {x : Found} {cost many : Int} {t : Tree} (h : betterB x cost = false) : x.take cost many t = { x with many := min (wrp (x.many + many)) 1099511627777 } := by
 unfold Found.take
 rw [if_neg]
 unfold betterB at h
 simpa using h
end Go.Mine.C
namespace Go.Proofs.YtkfdafeonhnloaaGreatDoor
open Go.RowKit Go.Shelf Go.Mine Go.Mine.C
attribute [local go_sem] Oper.semAt_some
theorem phrase109 (qi qx : Nat) (i : Nat) (cat f u : Int) (w : World) (hi : Blk w qi 3 #[.int .i64 i]) (hx : Blk w qx 103 #[.int .i64 cat, .int .i64 f, .int .i64 u]) :
  Calls Tryz.prog 109 #[.pointer (some ⟨qi, 0, none⟩), .pointer (some ⟨qx, 0, none⟩)] w fun e w' => e = .returned (treeV ⟨-1, i, f, u, none, 0, []⟩) ∧ Below w.heap.size w w' := by
 have c0 := hi.cell (v := .int .i64 i) 0 rfl
 have x1 := hx.cell (v := .int .i64 f) 1 rfl
 have x2 := hx.cell (v := .int .i64 u) 2 rfl
 have cl := hi.lt
 have xl := hx.lt
 have HB := hide (kalloc (Below.refl w.heap.size w) (.cells #[.int .i64 (-1), .int .i64 i, .int .i64 f, .int .i64 u, .slice none 0 0] 52))
 clear hi hx
 obtain ⟨W, hW⟩ : ∃ W, W = w.alloc (.cells #[.int .i64 (-1), .int .i64 i, .int .i64 f, .int .i64 u, .slice none 0 0] 52) := ⟨_, rfl⟩
 have B0 := Blk.new w #[.int .i64 (-1), .int .i64 i, .int .i64 f, .int .i64 u, .slice none 0 0] 52
 rw [← hW] at B0 HB
 have y0 := B0.cell (v := .int .i64 (-1)) 0 rfl
 have y1 := B0.cell (v := .int .i64 i) 1 rfl
 have y2 := B0.cell (v := .int .i64 f) 2 rfl
 have y3 := B0.cell (v := .int .i64 u) 3 rfl
 have y4 := B0.cell (v := .slice none 0 0) 4 rfl
 clear B0
 go_enter Tryz.func109, Tryz.ntmps109
 go_wp2
 rw [← hW]
 refine bodyPost_ret (v := treeV ⟨-1, i, f, u, none, 0, []⟩) ?_ rfl ⟨rfl, HB.out⟩
 simp [results, Tryz.results109, go_sem, treeV, y0, y1, y2, y3, y4]
theorem rule112 (qi qx qk : Nat) (i : Nat) (cat f u : Int) (A : Option Addr) (c : Nat) (kids : List TreeH) (w : World) (hi : Blk w qi 3 #[.int .i64 i]) (hx : Blk w qx 103 #[.int .i64 cat, .int .i64 f, .int .i64 u]) (hk : Blk w qk 50 #[.slice A kids.length c]) :
  Calls Tryz.prog 112 #[.pointer (some ⟨qi, 0, none⟩), .pointer (some ⟨qx, 0, none⟩), .pointer (some ⟨qk, 0, none⟩)] w fun e w' => e = .returned (treeV ⟨i, -1, f, u, A, c, kids⟩) ∧ Below w.heap.size w w' := by
 have c0 := hi.cell (v := .int .i64 i) 0 rfl
 have x1 := hx.cell (v := .int .i64 f) 1 rfl
 have x2 := hx.cell (v := .int .i64 u) 2 rfl
 have k0 := hk.cell (v := .slice A kids.length c) 0 rfl
 have cl := hi.lt
 have xl := hx.lt
 have kl := hk.lt
 generalize hn : kids.length = n at *
 have HN := hide hn
 have HB := hide (kalloc (Below.refl w.heap.size w) (.cells #[.int .i64 i, .int .i64 (-1), .int .i64 f, .int .i64 u, .slice A n c] 52))
 clear hi hx hk hn
 obtain ⟨W, hW⟩ : ∃ W, W = w.alloc (.cells #[.int .i64 i, .int .i64 (-1), .int .i64 f, .int .i64 u, .slice A n c] 52) := ⟨_, rfl⟩
 have B0 := Blk.new w #[.int .i64 i, .int .i64 (-1), .int .i64 f, .int .i64 u, .slice A n c] 52
 rw [← hW] at B0 HB
 have y0 := B0.cell (v := .int .i64 i) 0 rfl
 have y1 := B0.cell (v := .int .i64 (-1)) 1 rfl
 have y2 := B0.cell (v := .int .i64 f) 2 rfl
 have y3 := B0.cell (v := .int .i64 u) 3 rfl
 have y4 := B0.cell (v := .slice A n c) 4 rfl
 clear B0
 go_enter Tryz.func112, Tryz.ntmps112
 go_wp2
 rw [← hW]
 refine bodyPost_ret (v := treeV ⟨i, -1, f, u, A, c, kids⟩) ?_ rfl ⟨rfl, HB.out⟩
 simp [results, Tryz.results112, go_sem, treeV, y0, y1, y2, y3, y4, HN.out]
set_option maxHeartbeats 1000000 in
theorem take108 (q : Nat) (x : C.Found) (h h' : TreeH) (cost many : Int) (G : Nat) (bs : Array Value) (hG : ∀ args w, (callFunc G args).run Tryz.prog w = .ok (.enter G args) w) (t : Tree) (w : World) (hq : Blk w q 98 (foundA x h))
  (hK : ∀ W, KeptBut (· = q) w W → Calls Tryz.prog G bs W fun e w' => e = .returned (treeV h') ∧ Below W.heap.size W w') :
  Calls Tryz.prog 108 #[.pointer (some ⟨q, 0, none⟩), .int .i64 cost, .int .i64 many, .func (.func G) #[] bs] w fun e w' => e = .returned (.tuple #[]) ∧ Blk w' q 98 (foundA (x.take cost many t) (takeH x cost h h')) ∧ KeptBut (· = q) w w' := by
 have HQ := hide hq
 have HK := hide hK
 have c0 := hq.cell (v := .bool x.ok) 0 rfl
 have c3 := hq.cell (v := .int .i64 x.many) 7 rfl
 have cl := hq.lt
 have ct := hq.thaw
 have HB := hide (show betterB x cost = (!x.ok || decide (cost < x.cost)) from rfl)
 have HTY := hide (fun h => take_yes (x := x) (cost := cost) (many := many) (t := t) h)
 have HTN := hide (fun h => take_no (x := x) (cost := cost) (many := many) (t := t) h)
 have HW := wrp64 (x.many + many)
 generalize hM : min (wrp (x.many + many)) 1099511627777 = M at HTY HTN
 rw [← HW] at hM
 clear hq hK HW
 go_enter Tryz.func108, Tryz.ntmps108
 (refine wp_seq_k (fun K hK => ?_); replace hK := hide hK; go_wp2_with fail; refine hK.out _ _ ?_; clear hK K)
 refine at_world (fun W => Blk W q 98 (foundA { x with many := M } h) ∧ KeptBut (· = q) w W) ⟨HQ.out.set 7 _ rfl, (KeptBut.refl _ w).set _ (.inl rfl)⟩ ?_
 rintro W ⟨hb, hk⟩
 clear c0 c3 cl ct HQ hM
 have c0 := hb.cell (v := .bool x.ok) 0 rfl
 have c1 := hb.cell (v := .int .i64 x.cost) 1 rfl
 have cl := hb.lt
 have ct := hb.thaw
 have HQ := hide hb
 have HB2 := hide hk
 clear hb hk
 cases hb : betterB x cost
 ·have h0 := HB.out
  rw [hb] at h0
  have h1 : x.ok = true := by
   cases hx : x.ok
   ·rw [hx] at h0; simp at h0
   ·rfl
  rw [h1] at h0 c0
  have g1 : decide (cost < x.cost) = false := by simpa using h0.symm
  have HX := hide h1
  have HE := hide (HTN.out hb)
  have HH := hide (show takeH x cost h h' = h by unfold takeH; rw [hb]; rfl)
  clear h0 h1 hb HB HTY HTN
  go_wp2
  go_end0
  exact ⟨rfl, by rw [HE.out, HH.out]; exact HQ.out, HB2.out⟩
 ·have HE := hide (HTY.out hb)
  have HH := hide (show takeH x cost h h' = h' by unfold takeH; rw [hb]; rfl)
  have K := hide (HK.out W HB2.out)
  clear HTY HTN HK
  have HB' := hide (HB.out.symm.trans hb)
  clear hb HB
  have hT : foundA (x.take cost many t) (takeH x cost h h') = #[.bool true, .int .i64 cost, .int .i64 h'.rule, .int .i64 h'.item, .int .i64 h'.from_, .int .i64 h'.until_, .slice h'.kA h'.kids.length h'.kC, .int .i64 M] := by
   rw [HE.out, HH.out]; rfl
  rw [hT]
  clear hT HE HH
  have HBC := hide (show x.ok = true → decide (cost < x.cost) = true from fun h => by have := HB'.out; rw [h] at this; simpa using this.symm)
  cases hx : x.ok
  all_goals
   rw [hx] at c0 HBC
   have HX := hide hx
   first
    | have g1 := HBC.out rfl
    | skip
   clear hx HBC
   simp only [treeV] at K
   go_wp2_with fail
   refine K.out.mono ?_
   rintro e W1 ⟨rfl, hb1⟩
   have hq1 := HQ.out.bel hb1
   have d0 := hq1.cell (v := .bool x.ok) 0 rfl
   have d1 := hq1.cell (v := .int .i64 x.cost) 1 rfl
   have d2 := hq1.cell (v := .int .i64 h.rule) 2 rfl
   have d3 := hq1.cell (v := .int .i64 h.item) 3 rfl
   have d4 := hq1.cell (v := .int .i64 h.from_) 4 rfl
   have d5 := hq1.cell (v := .int .i64 h.until_) 5 rfl
   have d6 := hq1.cell (v := .slice h.kA h.kids.length h.kC) 6 rfl
   have dl := hq1.lt
   have dt := hq1.thaw
   have HF := hide (((((((hq1.set 0 (.bool true) rfl).set 1 (.int .i64 cost) rfl).set 2 (.int .i64 h'.rule) rfl).set 3 (.int .i64 h'.item) rfl).set 4 (.int .i64 h'.from_) rfl).set 5 (.int .i64 h'.until_) rfl).set 6 (.slice h'.kA h'.kids.length h'.kC) (cs' := #[.bool true, .int .i64 cost, .int .i64 h'.rule, .int .i64 h'.item, .int .i64 h'.from_, .int .i64 h'.until_, .slice h'.kA h'.kids.length h'.kC, .int .i64 M]) rfl)
   have HK2 := hide ((((((((HB2.out.below hb1).set (p := ⟨q, 0, none⟩) (.bool true) (.inl rfl)).set (p := ⟨q, 1, none⟩) (.int .i64 cost) (.inl rfl)).set (p := ⟨q, 2, none⟩) (.int .i64 h'.rule) (.inl rfl)).set (p := ⟨q, 3, none⟩) (.int .i64 h'.item) (.inl rfl)).set (p := ⟨q, 4, none⟩) (.int .i64 h'.from_) (.inl rfl)).set (p := ⟨q, 5, none⟩) (.int .i64 h'.until_) (.inl rfl)).set (p := ⟨q, 6, none⟩) (.slice h'.kA h'.kids.length h'.kC) (.inl rfl))
   clear hq1 HB2 HQ K hb1 c0 c1 cl ct
   go_wp2
   go_end0
   exact ⟨rfl, HF.out, HK2.out⟩
end Go.Proofs.YtkfdafeonhnloaaGreatDoor
namespace Go.Mine.C
open Go.RowKit Go.Mine
theorem Blk.but {O : Nat → Prop} {w w' : World} {b : Nat} {ty : TypeId} {cs : Array Value} (h : Blk w b ty cs) (k : KeptBut O w w') (hb : ¬ O b) : Blk w' b ty cs :=
 ⟨Nat.lt_of_lt_of_le h.lt k.size, (k.keep b h.lt hb).trans h.at_⟩
theorem KeepT.ofBlk {X : Nat → Prop} {w w' : World} {q : Nat} {ty : TypeId} {cs : Array Value} (hq : Blk w q ty cs) (hty : ty ≠ 52) (k : KeptBut (· = q) w w') : KeepT X w w' :=
 KeepT.but k fun b hb => .inr fun cs' fz e => by
  obtain rfl : b = q := hb
  rw [hq.at_] at e
  simp only [Option.some.injEq, Obj.cells.injEq] at e
  exact hty e.2.1
theorem Sl.but {α : Type} {f : α → List Value} {sz : Nat} {O : Nat → Prop} {w w' : World} {A : Option Addr} {c : Nat} {l : List α} (h : Sl f sz w A c l) (k : KeptBut O w w') (ho : ∀ a, A = some a → l ≠ [] → ¬ O a.block) : Sl f sz w' A c l :=
 h.keep (fun a ha hn hlt => k.keep _ hlt (ho a ha hn)) k.size
def phStep (cat f u : Int) (x : Found) (y : ItemM × Nat) : Found := if y.1.cat = cat ∧ y.1.from_ = f ∧ y.1.until_ = u then x.take y.1.cost 1 (.leaf y.2 f u) else x
def phGo (items : List ItemM) (cat f u : Int) (x : Found) (k : Nat) : Found := (items.zipIdx.take k).foldl (phStep cat f u) x
theorem phGo_succ {items : List ItemM} {cat f u : Int} {x : Found} {k : Nat} {y : ItemM} (h : items[k]? = some y) : phGo items cat f u x (k + 1) = phStep cat f u (phGo items cat f u x k) (y, k) := by
 unfold phGo
 have : items.zipIdx[k]? = some (y, k) := by rw [List.getElem?_zipIdx, h]; simp
 rw [List.take_add_one, this, List.foldl_append]
 rfl
theorem phGo_all (items : List ItemM) (cat f u : Int) (x : Found) : phGo items cat f u x items.length = phrasesF items cat f u x := by
 unfold phGo phrasesF
 rw [List.take_of_length_le (by simp)]
 rfl
theorem FoundR.take {X : Nat → Prop} {w w' : World} {x : Found} {h h' : TreeH} {cost many : Int} {t : Tree} (hr : FoundR X w x h) (k : KeepT X w w') (ht : TreeR X w' h' t) : FoundR X w' (x.take cost many t) (takeH x cost h h') := by
 cases hb : betterB x cost
 ·rw [take_no hb]
  have : takeH x cost h h' = h := by unfold takeH; rw [hb]; rfl
  rw [this]
  exact ⟨fun e => (hr.keep k).yes e, fun e => hr.no e⟩
 ·rw [take_yes hb]
  have : takeH x cost h h' = h' := by unfold takeH; rw [hb]; rfl
  rw [this]
  exact ⟨fun _ => ⟨t, rfl, ht⟩, fun e => by cases e⟩
end Go.Mine.C
namespace Go.Proofs.YtkfdafeonhnloaaGreatDoor
open Go.RowKit Go.Shelf Go.Mine Go.Mine.C
attribute [local go_sem] Oper.semAt_some
theorem e109 : ∀ args w, (callFunc 109 args).run Tryz.prog w = .ok (.enter 109 args) w := enters_of Tryz.func109 (by kernel_rfl) rfl
theorem e112 : ∀ args w, (callFunc 112 args).run Tryz.prog w = .ok (.enter 112 args) w := enters_of Tryz.func112 (by kernel_rfl) rfl
set_option maxRecDepth 100000 in
set_option maxHeartbeats 4000000 in
theorem phrases84 (cb q : Nat) (g : GramH) (iA : Option Addr) (iC : Nat) (items : List ItemH) (nn : Int) (mk mw : Nat) (cat f u : Int) (X : Nat → Prop) (x0 : C.Found) (h0 : TreeH) (w : World) (hc : Blk w cb 164 (chartA g iA items.length iC nn mk mw)) (hI : Sl itemC 6 w iA iC items) (hIq : ∀ a, iA = some a → items ≠ [] → a.block ≠ q) (hq : Blk w q 98 (foundA x0 h0)) (hr : FoundR X w x0 h0) :
  Calls Tryz.prog 84 #[.pointer (some ⟨cb, 0, none⟩), goalV (cat, f, u), .pointer (some ⟨q, 0, none⟩)] w fun e w' => e = .returned (.tuple #[]) ∧ KeptBut (· = q) w w' ∧ ∃ h', Blk w' q 98 (foundA (phrasesF (items.map ItemH.m) cat f u x0) h') ∧ FoundR X w' (phrasesF (items.map ItemH.m) cat f u x0) h' := by
 have hcq : cb ≠ q := by
  rintro rfl
  have := hc.at_
  rw [hq.at_] at this
  simp at this
 have HC := hide hc
 have HI := hide hI
 have HQ0 := hide hq
 have HR0 := hide hr
 have hle := hI.le
 have hmx := hI.max
 have c6 := (hc.alloc (.cells #[.int .i64 cat, .int .i64 f, .int .i64 u] 103)).cell (v := .slice iA items.length iC) 6 rfl
 have cl := hc.lt
 have hql := hq.lt
 have HG0 := hide (Blk.new w #[.int .i64 cat, .int .i64 f, .int .i64 u] 103)
 have HB0 := hide (KeptBut.of_below (X := (· = q)) (kalloc (Below.refl w.heap.size w) (.cells #[.int .i64 cat, .int .i64 f, .int .i64 u] 103)))
 have HQ1 := hide (hq.alloc (.cells #[.int .i64 cat, .int .i64 f, .int .i64 u] 103))
 have HR1 := hide (hr.keep (KeepT.bel (kalloc (Below.refl w.heap.size w) (.cells #[.int .i64 cat, .int .i64 f, .int .i64 u] 103))))
 have HALL := hide (phGo_all (items.map ItemH.m) cat f u x0)
 have HLM := hide (show (items.map ItemH.m).length = items.length by simp)
 generalize phrasesF (items.map ItemH.m) cat f u x0 = PF at *
 have HIQ := hide hIq
 clear hc hI hq hr hIq
 simp only [goalV]
 go_enter Tryz.func84, Tryz.ntmps84
 (refine wp_seq_k (fun K hK => ?_); replace hK := hide hK; go_wp2_with fail; refine hK.out _ _ ?_; clear hK K)
 obtain ⟨W0, hW0⟩ : ∃ W, W = w.alloc (.cells #[.int .i64 cat, .int .i64 f, .int .i64 u] 103) := ⟨_, rfl⟩
 rw [← hW0] at HG0 HB0 HQ1 HR1 c6 ⊢
 have cl0 : cb < W0.heap.size := Nat.lt_of_lt_of_le cl HB0.out.size
 clear hW0
 go_wp2
 clear c6
 go_loopw [13] (fun i wr => ∃ k : Nat, k ≤ items.length ∧ i = .int .i64 k ∧ Hid (KeptBut (· = q) w wr ∧ Blk wr w.heap.size 103 #[.int .i64 cat, .int .i64 f, .int .i64 u] ∧ ∃ h', Blk wr q 98 (foundA (phGo (items.map ItemH.m) cat f u x0 k) h') ∧ FoundR X wr (phGo (items.map ItemH.m) cat f u x0 k) h')) (fun i _ => items.length - (nI i).toNat)
 case atStart => exact ⟨0, Nat.zero_le _, rfl, hide ⟨HB0.out, HG0.out, h0, HQ1.out, HR1.out⟩⟩
 case round =>
  clear HG0 HB0 HQ1 HR1 cl0
  obtain ⟨k, hk, rfl, H⟩ := hrel
  obtain ⟨hkb, hgb, h1, hqb, hfr⟩ := H.out
  by_cases hlt : k < items.length
  ·obtain ⟨y, b, off, hy, hdr, hA, hbw, c0, c1, c2, c3, c4, c5⟩ := item_at (Sl.but HI.out hkb HIQ.out) hlt
   have hym : (items.map ItemH.m)[k]? = some y.m := by rw [List.getElem?_map, hy]; rfl
   have HST := hide (phGo_succ (cat := cat) (f := f) (u := u) (x := x0) hym)
   subst hA
   have g0 := hgb.cell (v := .int .i64 cat) 0 rfl
   have g1 := hgb.cell (v := .int .i64 f) 1 rfl
   have g2 := hgb.cell (v := .int .i64 u) 2 rfl
   have gl := hgb.lt
   have HKB := hide hkb
   have HGB := hide hgb
   have HQB := hide hqb
   have HFR := hide hfr
   clear H hkb hgb hqb hfr hdr hym
   have HW1 := hide (kalloc (kalloc (Below.refl wr.heap.size wr) (.cells #[.int .i64 k] 3)) (.cells #[.int .i64 y.cat, .int .i64 y.from_, .int .i64 y.until_, .int .i64 y.cost, .slice y.tA y.target.length y.tC, .int .i64 y.term] 68))
   by_cases e : y.m.cat = cat ∧ y.m.from_ = f ∧ y.m.until_ = u
   ·obtain ⟨e1, e2, e3⟩ := e
    have HS2 := hide (HST.out.trans (if_pos ⟨e1, e2, e3⟩))
    have e1 : y.cat = cat := e1
    have e2 : y.from_ = f := e2
    have e3 : y.until_ = u := e3
    rw [e1] at c0 HW1
    rw [e2] at c1 HW1
    rw [e3] at c2 HW1
    have E1 := hide e1
    have E2 := hide e2
    have E3 := hide e3
    clear e1 e2 e3 HST
    obtain ⟨W, hW⟩ : ∃ W, W = (wr.alloc (.cells #[.int .i64 k] 3)).alloc (.cells #[.int .i64 cat, .int .i64 f, .int .i64 u, .int .i64 y.cost, .slice y.tA y.target.length y.tC, .int .i64 y.term] 68) := ⟨_, rfl⟩
    have KT := hide (take108 q (phGo (items.map ItemH.m) cat f u x0 k) h1 ⟨-1, k, f, u, none, 0, []⟩ y.cost 1 109 #[.pointer (some ⟨wr.heap.size, 0, none⟩), .pointer (some ⟨w.heap.size, 0, none⟩)] e109 (.leaf k f u) W (by rw [hW]; exact (HQB.out.alloc _).alloc _) (fun W' hW' =>
     phrase109 wr.heap.size w.heap.size k cat f u W' (by
      refine Blk.but (w := W) ?_ hW' (fun h => by have := HQB.out.lt; omega)
      rw [hW]; exact (Blk.new wr _ 3).alloc _) (by
      refine Blk.but (w := W) ?_ hW' (fun h => by have := HQ0.out.lt; omega)
      rw [hW]; exact (HGB.out.alloc _).alloc _)))
    rw [← hW] at HW1
    go_wp2_with fail
    rw [← hW]
    refine KT.out.mono ?_
    rintro e W2 ⟨rfl, hq2, hk2⟩
    have HQ2 := hide (show Blk W2 q 98 (foundA (phGo (items.map ItemH.m) cat f u x0 (k + 1)) _) by rw [HS2.out]; exact hq2)
    have HK2 := hide (HKB.out.trans ((KeptBut.of_below HW1.out).trans hk2))
    have HG2 := hide (Blk.but (HGB.out.bel HW1.out) hk2 (fun h => by have := HQ0.out.lt; omega))
    have HF2 := hide (show FoundR X W2 (phGo (items.map ItemH.m) cat f u x0 (k + 1)) (takeH (phGo (items.map ItemH.m) cat f u x0 k) y.cost h1 ⟨-1, k, f, u, none, 0, []⟩) by
     rw [HS2.out]
     exact FoundR.take HFR.out (KeepT.trans (KeepT.bel HW1.out) (KeepT.ofBlk (ty := 98) (HQB.out.bel HW1.out) (by decide) hk2)) .leaf)
    clear hq2 hk2 HKB HGB HQB HFR HW1 KT hW c0 c1 c2 c3 c4 c5 g0 g1 g2 gl hbw
    go_wp2
    go_roundw
    case rel => exact ⟨k + 1, by omega, by go_num, hide ⟨HK2.out, HG2.out, _, HQ2.out, HF2.out⟩⟩
    case measure => simp [nI]; omega
   ·have HS2 := hide (HST.out.trans (if_neg e))
    have HE := hide e
    have HK2 := hide (HKB.out.trans (KeptBut.of_below HW1.out))
    have HG2 := hide (HGB.out.bel HW1.out)
    have HQ2 := hide (show Blk _ q 98 (foundA (phGo (items.map ItemH.m) cat f u x0 (k + 1)) h1) by rw [HS2.out]; exact HQB.out.bel HW1.out)
    have HF2 := hide (show FoundR X _ (phGo (items.map ItemH.m) cat f u x0 (k + 1)) h1 by rw [HS2.out]; exact HFR.out.keep (KeepT.bel HW1.out))
    clear HST e HKB HGB HQB HFR HW1
    have hcases : (y.cat == cat) = false ∨ ((y.cat == cat) = true ∧ (y.from_ == f) = false) ∨ ((y.cat == cat) = true ∧ (y.from_ == f) = true ∧ (y.until_ == u) = false) := by
     have := HE.out
     simp only [ItemH.m, not_and] at this
     by_cases e1 : y.cat = cat
     ·by_cases e2 : y.from_ = f
      ·exact .inr (.inr ⟨by simpa using e1, by simpa using e2, by simpa using this e1 e2⟩)
      ·exact .inr (.inl ⟨by simpa using e1, by simpa using e2⟩)
     ·exact .inl (by simpa using e1)
    rcases hcases with e1 | ⟨e1, e2⟩ | ⟨e1, e2, e3⟩
    all_goals
     go_wp2
     go_roundw
     case rel => exact ⟨k + 1, by omega, by go_num, hide ⟨HK2.out, HG2.out, h1, HQ2.out, HF2.out⟩⟩
     case measure => simp [nI]; omega
  ·obtain rfl : k = items.length := by omega
   rw [← HLM.out, HALL.out] at hqb hfr
   have HF := hide (show _ ∧ _ from ⟨hqb, hfr⟩)
   have HKB := hide hkb
   clear H hqb hfr hkb hgb
   go_wp2
   go_end0
   exact ⟨rfl, HKB.out, h1, HF.out⟩
end Go.Proofs.YtkfdafeonhnloaaGreatDoor
namespace Go.Mine.C
open Go.RowKit Go.Mine
theorem flat_idx {α β : Type} {f : α → List β} {l : List α} {j jj : Nat} {m : α} {y : β} (h : l[j]? = some m) (hy : (f m)[jj]? = some y) : (l.flatMap f)[((l.take j).flatMap f).length + jj]? = some y := by
 have e : l = l.take j ++ m :: l.drop (j + 1) := by
  have := List.take_append_drop j l
  rw [drop_of_get h] at this
  exact this.symm
 have e2 : l.flatMap f = (l.take j).flatMap f ++ (f m ++ (l.drop (j + 1)).flatMap f) := by
  conv => lhs; rw [e]
  rw [List.flatMap_append, List.flatMap_cons]
 rw [e2, List.getElem?_append_right (by omega), Nat.add_sub_cancel_left, List.getElem?_append_left (List.getElem?_eq_some_iff.1 hy).1]
 exact hy
theorem flat_take {α β : Type} {f : α → List β} {l : List α} {j : Nat} {m : α} (h : l[j]? = some m) : ((l.take (j + 1)).flatMap f).length = ((l.take j).flatMap f).length + (f m).length := by
 rw [take_of_get h, List.flatMap_append, List.length_append]
 simp
theorem flat_take_le {α β : Type} (f : α → List β) (l : List α) (j : Nat) : ((l.take j).flatMap f).length ≤ (l.flatMap f).length := by
 conv => rhs; rw [← List.take_append_drop j l, List.flatMap_append, List.length_append]
 omega
theorem endsL_get {i last : Int} {j : Nat} (h : j < (last - i).toNat) : (endsL i last)[j]? = some (i + 1 + (j : Int)) := by
 unfold endsL
 rw [List.getElem?_map, List.getElem?_range h]
 rfl
theorem endsL_len (i last : Int) : (endsL i last).length = (last - i).toNat := by simp [endsL]
theorem OwnL.pop {α : Type} {f : α → List Value} {sz : Nat} {e : TypeId} {w : World} {base : Nat} {A : Option Addr} {n c : Nat} {l : List α} {y : α} (h : OwnL f sz e w base (.slice A n c) (l ++ [y])) : OwnL f sz e w base (.slice A l.length c) l := by
 obtain ⟨⟨hl, h1⟩, hs⟩ := h
 have hs' : ∀ x ∈ l, (f x).length = sz := fun x hx => hs x (by simp [hx])
 rcases h1 with ⟨h1, hn⟩ | ⟨g, cap, cur, hv, hg, hh, hn, hc, hz, ht⟩
 ·simp at hn
 ·injection hv with hA hn' hc'
  subst hA hc'
  refine ⟨⟨flat_length f sz l hs', .inr ⟨g, c, cur, rfl, hg, hh, ?_, hc, hz, ?_⟩⟩, hs'⟩
  ·simp at hn; omega
  ·have : cur.toList.take (l.length * sz) = (cur.toList.take ((l ++ [y]).length * sz)).take (l.length * sz) := by
    rw [List.take_take]; congr 1
    simp [Nat.succ_mul]
   rw [this, ht, List.flatMap_append, List.take_append_of_le_length (by rw [flat_length f sz l hs']; exact Nat.le_refl _), List.take_of_length_le (by rw [flat_length f sz l hs']; exact Nat.le_refl _)]
structure WordsIn (ws : Int → List Str) (mw : Nat) (R : Nat → Prop) (W : World) : Prop where
 map : ∃ n m, MapI Go.Proofs.Tryz.prog 3 W mw n m ∧ ∀ i, ∃ A c, (m i).getD (.slice none 0 0) = .slice A (ws i).length c ∧ Sl sc 1 W A c (ws i) ∧ ∀ a, A = some a → ws i ≠ [] → R a.block
 r : R mw
theorem WordsIn.keep {ws : Int → List Str} {mw : Nat} {R : Nat → Prop} {W W' : World} (h : WordsIn ws mw R W) (hz : W.heap.size ≤ W'.heap.size) (hk : ∀ b, R b → b < W.heap.size → W'.heap[b]? = W.heap[b]?) : WordsIn ws mw R W' := by
 obtain ⟨n, m, h1, h2⟩ := h.map
 refine ⟨⟨n, m, h1.heap (hk _ h.r h1.lt), fun i => ?_⟩, h.r⟩
 obtain ⟨A, c, e1, e2, e3⟩ := h2 i
 exact ⟨A, c, e1, e2.keep (fun a ha hn hlt => hk _ (e3 a ha hn) hlt) hz, e3⟩
def hasW (ws : Int → List Str) (i : Int) (s : Str) : Bool := inL (ws i) s
structure LayIn (cb pB uB eB cB lB mk mw : Nat) (g : GramH) (iA : Option Addr) (nI iC : Nat) (nn : Int) (pA : Option Addr) (pC : Nat) (parts : List PartM) (u : Int) (ws : Int → List Str) (R : Nat → Prop) (W : World) : Prop where
 chart : Blk W cb 164 (chartA g iA nI iC nn mk mw)
 pb : Blk W pB 108 #[.slice pA parts.length pC]
 ub : Blk W uB 3 #[.int .i64 u]
 cbx : Blk W cB 99 #[.pointer (some ⟨cb, 0, none⟩)]
 lb : Blk W lB 229 #[.func (.func 147) #[] #[.pointer (some ⟨pB, 0, none⟩), .pointer (some ⟨uB, 0, none⟩), .pointer (some ⟨eB, 0, none⟩), .pointer (some ⟨cB, 0, none⟩), .pointer (some ⟨lB, 0, none⟩)]]
 psl : Sl partC 3 W pA pC parts
 words : WordsIn ws mw R W
 r : R cb ∧ R pB ∧ R uB ∧ R cB ∧ R lB
 rp : ∀ a, pA = some a → parts ≠ [] → R a.block
theorem Blk.heap {w w' : World} {b : Nat} {ty : TypeId} {cs : Array Value} (h : Blk w b ty cs) (e : w'.heap[b]? = w.heap[b]?) : Blk w' b ty cs :=
 ⟨(Array.getElem?_eq_some_iff.1 (e.trans h.at_)).1, e.trans h.at_⟩
section
variable {cb pB uB eB cB lB mk mw : Nat} {g : GramH} {iA : Option Addr} {nI iC : Nat} {nn : Int} {pA : Option Addr} {pC : Nat} {parts : List PartM} {u : Int} {ws : Int → List Str} {R : Nat → Prop} {W W' : World}
theorem LayIn.keep (h : LayIn cb pB uB eB cB lB mk mw g iA nI iC nn pA pC parts u ws R W) (hz : W.heap.size ≤ W'.heap.size) (hk : ∀ b, R b → b < W.heap.size → W'.heap[b]? = W.heap[b]?) : LayIn cb pB uB eB cB lB mk mw g iA nI iC nn pA pC parts u ws R W' :=
 ⟨Blk.heap h.chart (hk _ h.r.1 h.chart.lt), Blk.heap h.pb (hk _ h.r.2.1 h.pb.lt), Blk.heap h.ub (hk _ h.r.2.2.1 h.ub.lt), Blk.heap h.cbx (hk _ h.r.2.2.2.1 h.cbx.lt), Blk.heap h.lb (hk _ h.r.2.2.2.2 h.lb.lt),
  h.psl.keep (fun a ha hn hlt => hk _ (h.rp a ha hn) hlt) hz, h.words.keep hz hk, h.r, h.rp⟩
theorem LayIn.bel (h : LayIn cb pB uB eB cB lB mk mw g iA nI iC nn pA pC parts u ws R W) (hb : Below W.heap.size W W') : LayIn cb pB uB eB cB lB mk mw g iA nI iC nn pA pC parts u ws R W' :=
 h.keep hb.size fun b _ hlt => hb.block b hlt
end
structure EndsIn (eB base : Nat) (O : Nat → Prop) (W : World) (l : List Int) : Prop where
 ex : ∃ v, Blk W eB 31 #[v] ∧ OwnL ic 1 3 W base v l ∧ ∀ g, v.ownBlock = some g → O g
 o : O eB
theorem EndsIn.keep {eB base : Nat} {O : Nat → Prop} {W W' : World} {l : List Int} (h : EndsIn eB base O W l) (hk : ∀ b, O b → b < W.heap.size → W'.heap[b]? = W.heap[b]?) : EndsIn eB base O W' l := by
 obtain ⟨v, h1, h2, h3⟩ := h.ex
 exact ⟨⟨v, Blk.heap h1 (hk _ h.o h1.lt), h2.keep fun g hg => hk g (h3 g hg) (h2.blk hg).2.1, h3⟩, h.o⟩
def LayY (L : List (List Int)) (k : Nat) (x : Array Value) (O : Nat → Prop) (W : World) : Prop := ∃ A c l, L[k]? = some l ∧ x = #[.slice A l.length c] ∧ Sl ic 1 W A c l ∧ ∀ a, A = some a → l ≠ [] → O a.block
end Go.Mine.C
namespace Go.Mine.C
open Go.RowKit Go.Mine
def LaySpec (cb pB uB eB cB lB mk mw : Nat) (g : GramH) (iA : Option Addr) (nI iC : Nat) (nn : Int) (pA : Option Addr) (pC : Nat) (parts : List PartM) (u : Int) (ws : Int → List Str) (R : Nat → Prop)
  (lp N base : Nat) (L : List (List Int)) (J : Nat → (Nat → Prop) → World → Prop) (Jx : Unit → (Nat → Prop) → World → Prop) (O0 : Nat → Prop) (ps : List PartM) : Prop :=
 ∀ (n p : Nat) (i : Int) (pre : List Int) (k0 : Nat) (O : Nat → Prop) (W : World), parts.drop p = ps → p ≤ parts.length → 0 ≤ i → i ≤ 16 → pre.length + ps.length ≤ 16 → k0 + (laysL (hasW ws) ps i u).length ≤ N →
  (∀ j x, (laysL (hasW ws) ps i u)[j]? = some x → L[k0 + j]? = some (pre ++ x)) → LayIn cb pB uB eB cB lB mk mw g iA nI iC nn pA pC parts u ws R W → EndsIn eB base O W pre → J k0 O W →
  (∀ b, O b → (O0 b ∨ base ≤ b) ∧ b < W.heap.size) → base ≤ W.heap.size →
  CallsIn Fence.wide n Go.Proofs.Tryz.prog 147 #[.int .i64 p, .int .i64 i, .func (.yield lp) #[] #[], .pointer (some ⟨pB, 0, none⟩), .pointer (some ⟨uB, 0, none⟩), .pointer (some ⟨eB, 0, none⟩), .pointer (some ⟨cB, 0, none⟩), .pointer (some ⟨lB, 0, none⟩)] W fun e W' =>
   ∃ O', (∀ b, O' b → (O0 b ∨ base ≤ b) ∧ b < W'.heap.size) ∧ base ≤ W'.heap.size ∧ LayIn cb pB uB eB cB lB mk mw g iA nI iC nn pA pC parts u ws R W' ∧
    ((e = .returned (.bool true) ∧ EndsIn eB base O' W' pre ∧ J (k0 + (laysL (hasW ws) ps i u).length) O' W') ∨ (e = .returned (.bool false) ∧ Jx () O' W'))
def LayYield (R : Nat → Prop) (lp N base m : Nat) (L : List (List Int)) (J : Nat → (Nat → Prop) → World → Prop) (Jx : Unit → (Nat → Prop) → World → Prop) (O0 : Nat → Prop) : Prop :=
 ∀ k x O W1, k < N → LayY L k x O W1 → J k O W1 → (∀ b, O b → (O0 b ∨ base ≤ b) ∧ b < W1.heap.size) → base ≤ W1.heap.size →
   YieldAt Fence.wide m Go.Proofs.Tryz.prog lp x W1 fun e W' => Kept (fun b => O b ∨ R b) W1 W' ∧
    ((e = .returned (.bool true) ∧ J (k + 1) O W') ∨ (e = .returned (.bool false) ∧ Jx () O W'))
end Go.Mine.C
namespace Go.Proofs.YtkfdafeonhnloaaGreatDoor
open Go.RowKit Go.Shelf Go.Mine Go.Mine.C
attribute [local go_sem] Oper.semAt_some
theorem roundIn_any {n m : Nat} {P : Program} {l : Nat} {f : FuncId} {tmps : Array Value} {assign body : Code} {w : World} {R : Ending → World → Prop} (h : RoundIn Fence.wide n P l f tmps assign body w R) : RoundIn Fence.wide m P l f tmps assign body w R :=
 ⟨trivial, fun c cs _ => h.2 c cs (room_wide _)⟩
theorem e147 : ∀ args w, (callFunc 147 args).run Tryz.prog w = .ok (.enter 147 args) w := enters_of Tryz.func147 (by kernel_rfl) rfl
section
variable {cb pB uB eB cB lB mk mw : Nat} {g : GramH} {iA : Option Addr} {nI iC : Nat} {nn : Int} {pA : Option Addr} {pC : Nat} {parts : List PartM} {u : Int} {ws : Int → List Str} {R : Nat → Prop} {lp N base m : Nat} {L : List (List Int)} {J : Nat → (Nat → Prop) → World → Prop} {Jx : Unit → (Nat → Prop) → World → Prop} {O0 : Nat → Prop}
set_option maxRecDepth 100000 in
set_option maxHeartbeats 4000000 in
theorem lay147_nil (hJ : XStable J) (hY : LayYield R lp N base m L J Jx O0) (hR : ∀ b, R b → b < base ∧ b ≠ eB) (hu : 0 ≤ u ∧ u ≤ 16) : LaySpec cb pB uB eB cB lB mk mw g iA nI iC nn pA pC parts u ws R lp N base L J Jx O0 [] := by
 intro n p i pre k0 O W hdrop hp hi0 hi16 hpre hN hL hIn hE hJ0 hO hbase
 have hpl : p = parts.length := by
  have := congrArg List.length hdrop
  simp at this; omega
 have HIN := hide hIn
 have HY := hide hY
 have HR := hide hR
 have HL := hide hL
 have HE := hide hE
 have HO := hide hO
 have HJ0 := hide hJ0
 have c0 := hIn.pb.cell (v := .slice pA parts.length pC) 0 rfl
 have c1 := hIn.ub.cell (v := .int .i64 u) 0 rfl
 have cl0 := hIn.pb.lt
 have cl1 := hIn.ub.lt
 have hpm := hIn.psl.max
 have hpc := hIn.psl.le
 subst hpl
 have hsub : wrap64 ((parts.length : Int) - parts.length) = 0 := by unfold wrap64; omega
 obtain ⟨v, hv1, hv2, hv3⟩ := hE.ex
 obtain ⟨A, c, hve, hsl⟩ := hv2.sl
 have e0 := hv1.cell (v := v) 0 rfl
 have el := hv1.lt
 clear hIn hY hR hL hE hO hJ0 hdrop
 by_cases hiu : i = u
 ·subst hiu
  have hlen : (laysL (hasW ws) [] i i) = [[]] := by simp [laysL]
  rw [hlen] at HL hN ⊢
  have hyk : L[k0]? = some pre := by
   have := HL.out 0 [] rfl
   simpa using this
  have hlt : k0 < N := by simp at hN; omega
  obtain ⟨fn, tmps, assign, body, hyy, hRR⟩ := HY.out k0 #[v] O W hlt ⟨A, c, pre, hyk, by rw [hve], hsl, fun a ha hn => hv3 _ (by rw [hve, ha]; rfl)⟩ HJ0.out HO.out hbase
  subst hve
  replace hRR := hide hRR
  clear HL hyk hlt hv1 hv2 hv3 hsl hlen hN
  refine callsIn_of_wp Tryz.func147 rfl trivial ?_ rfl
  simp only [Tryz.ntmps147]
  simp only [List.size_toArray, List.length_cons, List.length_nil, Nat.reduceAdd, Nat.reduceSub, Array.replicate_succ, Array.replicate_zero, List.push_toArray, List.append_toArray, List.nil_append, List.cons_append]
  gi_wp2_with fail
  refine (roundIn_any hRR.out).mono ?_
  rintro e W' ⟨hK, (⟨rfl, hj'⟩ | ⟨rfl, hjx⟩)⟩
  ·have HZ := hide (Nat.le_trans hbase hK.size)
   have HO' := hide (show ∀ b, O b → (O0 b ∨ base ≤ b) ∧ b < W'.heap.size from fun b hb => ⟨(HO.out b hb).1, Nat.lt_of_lt_of_le (HO.out b hb).2 hK.size⟩)
   have HIN' := hide (HIN.out.keep hK.size fun b hb hlt => hK.keep b hlt (.inr hb))
   have HE' := hide (HE.out.keep fun b hb hlt => hK.keep b hlt (.inl hb))
   have HJ' := hide hj'
   clear hK hj' hRR hyy
   gi_wp2
   refine bodyPost_ret (v := .bool true) (by simp [results, Tryz.results147, go_sem]) rfl ?_
   exact ⟨O, HO'.out, HZ.out, HIN'.out, .inl ⟨rfl, HE'.out, HJ'.out⟩⟩
  ·have HZ := hide (Nat.le_trans hbase hK.size)
   have HO' := hide (show ∀ b, O b → (O0 b ∨ base ≤ b) ∧ b < W'.heap.size from fun b hb => ⟨(HO.out b hb).1, Nat.lt_of_lt_of_le (HO.out b hb).2 hK.size⟩)
   have HIN' := hide (HIN.out.keep hK.size fun b hb hlt => hK.keep b hlt (.inr hb))
   have HJ' := hide hjx
   clear hK hjx hRR hyy
   gi_wp2
   refine bodyPost_ret (v := .bool false) (by simp [results, Tryz.results147, go_sem]) rfl ?_
   exact ⟨O, HO'.out, HZ.out, HIN'.out, .inr ⟨rfl, HJ'.out⟩⟩
 ·have hlen : (laysL (hasW ws) [] i u) = [] := by simp [laysL, hiu]
  rw [hlen]
  have g1 : (i == u) = false := by simpa using hiu
  have g2 : (i != u) = true := by rw [bne, g1]; rfl
  clear hlen HL hN hv1 hv2 hv3 hsl hiu
  refine callsIn_of_wp Tryz.func147 rfl trivial ?_ rfl
  simp only [Tryz.ntmps147]
  simp only [List.size_toArray, List.length_cons, List.length_nil, Nat.reduceAdd, Nat.reduceSub, Array.replicate_succ, Array.replicate_zero, List.push_toArray, List.append_toArray, List.nil_append, List.cons_append]
  gi_wp2
  refine bodyPost_ret (v := .bool true) (by simp [results, Tryz.results147, go_sem]) rfl ?_
  exact ⟨O, HO.out, hbase, HIN.out, .inl ⟨rfl, HE.out, HJ0.out⟩⟩
end
end Go.Proofs.YtkfdafeonhnloaaGreatDoor
