/-
 types.circular.
-/
import Derived.Test.YtkfdafeonhnloaaGreatDoorGM10
import Derived.Deep.RegionLaw
namespace Go.Mine.C
def memB (l : List Str) (s : Str) : Bool := l.any fun x => decide (x = s)
theorem memB_iff {l : List Str} {s : Str} : memB l s = true ↔ s ∈ l := by simp [memB]
theorem memB_snoc (l : List Str) (x : Str) : leftM (memB (l ++ [x])) = updG (leftM (memB l)) x (.bool true) := by
 funext s
 unfold updG leftM memB
 rw [List.any_append]
 by_cases h : s = x
 ·subst h; simp
 ·have h' : ¬ x = s := fun e => h e.symm
  rw [if_neg h, List.any_cons, List.any_nil, decide_eq_false h', Bool.false_or, Bool.or_false]
end Go.Mine.C
namespace Go.Proofs.YtkfdafeonhnloaaGreatDoor
open Go.RowKit Go.Shelf Go.Mine Go.Mine.C
attribute [local go_sem] Oper.semAt_some
theorem keyOf_s {key : Value} {kl : Lit} (h : keyOf Tryz.prog 9 key = some kl) : ∃ s : ByteArray, key = .string s ∧ kl = litS s ∧ okS s := by
 have e : keyOf Tryz.prog 9 key = mapKey Tryz.prog 9 key := by simp [keyOf, Tryz.underlying9]
 rw [e] at h
 cases key <;> simp [mapKey, Tryz.underlying9] at h
 exact ⟨_, rfl, h.2.symm, h.1⟩
structure CirW (g : GramH) (w wr : World) (L : Str → Bool) (cnt M : Nat) : Prop where
 gram : Blk wr w.heap.size 26 #[.string g.name, .slice g.cA g.cats.length g.cC, .string g.start, .int .i64 g.startNo, .slice g.eA g.entries.length g.eC, .slice g.rA g.rules.length g.rC]
 box : Blk wr (w.heap.size + 2) 217 #[.map (some (w.heap.size + 1))]
 map : ∃ n, n ≤ M ∧ MapG Tryz.prog 9 litS okS wr (w.heap.size + 1) n (leftM L) cnt
 bel : Below w.heap.size w wr
theorem same_lit (s c : ByteArray) : (litS s).sameKey (litS c) = decide (s = c) := by
 by_cases h : s = c
 ·subst h
  rw [WideAt.sameKey_self (by simp [litS, WideAt.IsKeyLit]), decide_eq_true rfl]
 ·rw [Maps.sameKey_ne (fun e => h (litS_inj e)), decide_eq_false h]
structure CirR (g : GramH) (w wr : World) (it n : Nat) (L : Str → Bool) (cnt : Nat) (left : Lit → Bool) (lc : Nat) : Prop where
 gram : Blk wr w.heap.size 26 #[.string g.name, .slice g.cA g.cats.length g.cC, .string g.start, .int .i64 g.startNo, .slice g.eA g.entries.length g.eC, .slice g.rA g.rules.length g.rC]
 box : Blk wr (w.heap.size + 2) 217 #[.map (some (w.heap.size + 1))]
 rng : ∃ D : DataW Value, wr.ranges Tryz.prog 9 anyElem (w.heap.size + 1) it n D left lc ∧ Rep D L ∧ Maps.size D = cnt ∧ ∀ kl, left kl = true → Maps.has D kl = true
 bel : Below w.heap.size w wr
theorem CirR.belw {g : GramH} {w wr wr' : World} {it n : Nat} {L : Str → Bool} {cnt : Nat} {left : Lit → Bool} {lc : Nat} (h : CirR g w wr it n L cnt left lc) (hb : Below wr.heap.size wr wr') : CirR g w wr' it n L cnt left lc := by
 obtain ⟨D, h1, h2, h3, h4⟩ := h.rng
 exact ⟨h.gram.bel hb, h.box.bel hb, ⟨D, h1.kept (gb_below hb none) (by simp) (by simp), h2, h3, h4⟩, kcall h.bel hb⟩
theorem CirR.left {g : GramH} {w wr : World} {it n : Nat} {L : Str → Bool} {cnt : Nat} {left : Lit → Bool} {lc : Nat} (h : CirR g w wr it n L cnt left lc) : LeftIn wr (w.heap.size + 2) L := by
 obtain ⟨D, h1, h2, h3, h4⟩ := h.rng
 refine ⟨w.heap.size + 1, n, cnt, h.box, D, h1.owns, fun s hs => ?_, h3⟩
 obtain ⟨e1, e2⟩ := h2 s hs
 refine ⟨?_, e2⟩
 rw [e1]
 unfold leftM
 cases L s <;> rfl
theorem below_grown' {w0 w w' : World} {b : Nat} (h : Below w0.heap.size w0 w) (g : w.grownBy w' (some b)) (hb : w0.heap.size ≤ b) : Below w0.heap.size w0 w' :=
 Below.grown h g h.size (fun k hk => by cases hk; exact hb)
theorem e135 : ∀ args w, (callFunc 135 args).run Tryz.prog w = .ok (.enter 135 args) w := enters_of Tryz.func135 (by kernel_rfl) rfl
theorem leadsP (c : Str) (L : Str → Bool) (q p : Nat) (w : World) (hq : Blk w q 9 #[.string c]) (hL : LeftIn w p L) (l : List RuleH) (ho : ∀ x ∈ l, RuleOkW w x) (hsp : ∀ x ∈ l, ∀ y ∈ x.parts, okS y.cat) : Pred Tryz.prog ruleV 135 #[.pointer (some ⟨q, 0, none⟩), .pointer (some ⟨p, 0, none⟩)] (leadX L c) l w := fun x hx w' hb => by
 have := leads135 x c L q p w' ((ho x hx).bel hb) (hsp x hx) (hq.bel hb) (hL.bel hb)
 simpa using this
set_option maxRecDepth 100000 in
set_option maxHeartbeats 8000000 in
theorem circular95 (g : GramH) (w : World) (hG : GramOk w g) (hs : GramS g) (h32 : g.cats.length ≤ 32) :
  Calls Tryz.prog 95 #[gramV g] w fun e w' => e = .returned (.bool (circB g)) ∧ Below w.heap.size w w' := by
 have hcl := hG.cats.le
 have hcm := hG.cats.max
 have hrl := hG.rules.le
 have hrm := hG.rules.max
 have hmm := @run_makeMap Tryz.prog
 have HG := hide hG
 have HS := hide hs
 have HR := hide (show circB g = @decide (Circ g) (Classical.propDecidable _) from rfl)
 generalize circB g = R at *
 simp only [gramV]
 clear hG hs
 go_enter Tryz.func95, Tryz.ntmps95
 go_wp2
 clear hmm
 obtain ⟨w3, hw3⟩ : ∃ y, y = ((w.alloc (.cells #[.string g.name, .slice g.cA g.cats.length g.cC, .string g.start, .int .i64 g.startNo, .slice g.eA g.entries.length g.eC, .slice g.rA g.rules.length g.rC] 26)).alloc (.map #[] 0)).alloc (.cells #[.map (some (w.heap.size + 1))] 217) := ⟨_, rfl⟩
 have HC0 : Hid (CirW g w w3 (memB (g.cats.take 0)) 0 0) := hide ⟨by rw [hw3]; exact ((Blk.new w _ 26).alloc _).alloc _, by rw [hw3]; exact Blk.new2 w _ _ _ 217, ⟨0, Nat.zero_le _, by
  rw [hw3]
  have h1 := (MapG.made (w.alloc (.cells #[.string g.name, .slice g.cA g.cats.length g.cC, .string g.start, .int .i64 g.startNo, .slice g.eA g.entries.length g.eC, .slice g.rA g.rules.length g.rC] 26)) Tryz.prog 9 litS okS).alloc (.cells #[.map (some (w.heap.size + 1))] 217)
  have e : leftM (memB (g.cats.take 0)) = fun _ => none := by funext s; simp [leftM, memB]
  rw [e]
  simpa using h1⟩, by rw [hw3]; exact kalloc (kalloc (kalloc (Below.refl _ _) _) _) _⟩
 rw [← hw3]
 clear hw3
 go_loopw [12] (fun i wr => ∃ (k cnt : Nat), k ≤ g.cats.length ∧ i = .int .i64 k ∧ Hid (CirW g w wr (memB (g.cats.take k)) cnt k)) (fun i _ => g.cats.length - (nI i).toNat)
 case atStart => exact ⟨0, 0, Nat.zero_le _, rfl, HC0⟩
 case round =>
  clear HC0
  obtain ⟨k, cnt, hk, rfl, HC⟩ := hrel
  have b0 := HC.out.gram
  have b1 := HC.out.box
  have x1 := b0.cell (v := .slice g.cA g.cats.length g.cC) 1 rfl
  have xl := b0.lt
  have y0 := b1.cell (v := .map (some (w.heap.size + 1))) 0 rfl
  have yl := b1.lt
  by_cases hlt : k < g.cats.length
  ·obtain ⟨s, b, off, hx, hdr, hA, hbw, c1⟩ := Sl.sc_at (HG.out.bel HC.out.bel).cats hlt
   have hok := HS.out.cats s (List.mem_of_getElem? hx)
   obtain ⟨n, hn, hM⟩ := HC.out.map
   obtain ⟨w', e1, hM', hg'⟩ := hM.put keyS Tryz.underlying217 (by unfold maxLen; omega) hok (.bool true)
   rw [← memB_snoc, ← take_of_get hx] at hM'
   have hne : ∀ {p : Nat} {ty : TypeId} {cs : Array Value}, Blk wr p ty cs → some p ≠ some (w.heap.size + 1) := fun h e => hM.notcells h (Option.some.inj e)
   have HC' : Hid (CirW g w w' (memB (g.cats.take (k + 1))) _ (k + 1)) := hide ⟨b0.grown hg' (hne b0), b1.grown hg' (hne b1), ⟨n + 1, by omega, hM'⟩, below_grown' HC.out.bel hg' (by omega)⟩
   rw [hA]
   clear b0 b1 hx hdr hM hM' hg' hne
   go_wp2
   go_roundw
   case rel => exact ⟨k + 1, _, by omega, by go_num, HC'⟩
   case measure => simp [nI]; omega
  ·obtain rfl : k = g.cats.length := by omega
   rw [List.take_length] at HC
   have HH0 := hide (show Holds g (memB g.cats) from ⟨fun s h => memB_iff.1 h, fun S hS c hc => memB_iff.2 (hS c hc).1⟩)
   have hcle := hide (show cnt ≤ g.cats.length by
    obtain ⟨n, hn, D, hM, _, e⟩ := HC.out.map
    have := hM.size_le
    omega)
   obtain ⟨wo, hwo⟩ : ∃ x, x = wr := ⟨_, rfl⟩
   subst hwo
   clear b0 b1
   go_wp2
   clear x1 xl y0 yl
   go_loopw [22] (fun i wr => ∃ (k cnt : Nat) (L : Str → Bool), k ≤ g.cats.length ∧ i = .int .i64 k ∧ Hid (CirW g w wr L cnt g.cats.length) ∧ Hid (Holds g L) ∧ Hid (Stab g L ∨ cnt + k ≤ g.cats.length)) (fun i _ => g.cats.length - (nI i).toNat)
   case atStart => exact ⟨0, cnt, _, Nat.zero_le _, rfl, HC, HH0, .inr (by have := hcle.out; omega)⟩
   case round =>
    clear HC HH0 hcle
    obtain ⟨k, cnt, L, hk, rfl, HC, HH, HSt⟩ := hrel
    have b0 := HC.out.gram
    have b1 := HC.out.box
    have x1 := b0.cell (v := .slice g.cA g.cats.length g.cC) 1 rfl
    have xl := b0.lt
    have y0 := b1.cell (v := .map (some (w.heap.size + 1))) 0 rfl
    have yl := b1.lt
    by_cases hlt : k < g.cats.length
    ·obtain ⟨n, hn, D, hown, hrep, hsz⟩ := HC.out.map
     obtain ⟨wo, hwo⟩ : ∃ x, x = wr := ⟨_, rfl⟩
     subst hwo
     go_wp2_with (at_range; refine wpList_range_own _ rfl _ 217 rfl 9 4 (Maps.string_keyed Tryz.underlying9) Tryz.underlying217 _ (w.heap.size + 1) _ D rfl hown ?_; intro w0 hrg0 hg0 hs0)
     go_frame
     have hml := hown.lt
     have hrep' : Rep D L := fun s hs => ⟨by
      rw [(hrep s hs).1]
      unfold leftM
      cases L s <;> rfl, (hrep s hs).2⟩
     have hbz := HC.out.bel.size
     have HR0 : Hid (CirR g w w0 wo.heap.size n L cnt (Maps.has D) (Maps.size D)) := hide ⟨b0.grown hg0 (by simp), b1.grown hg0 (by simp), ⟨D, hrg0, hrep', hsz, fun _ h => h⟩, HC.out.bel.grown hg0 hbz (fun k hk => by cases hk)⟩
     have HRN0 : Hid (Rnd g L L cnt cnt (fun s => Maps.has D (litS s))) := hide (Rnd.start HH.out (fun s hs => by
      have hm := HH.out.1 s hs
      rw [(hrep' s (HS.out.cats s hm)).1]; exact hs))
     have HLT := hide (And.intro HC.out.gram.lt HC.out.box.lt)
     have hno : wo.heap.size < w0.heap.size := by omega
     have hnz : wo.heap.size ≠ w.heap.size + 1 := by omega
     have hn32 : w.heap.size ≤ wo.heap.size := hbz
     clear hrep hrep' hrg0 hg0 hown b0 b1 x1 xl y0 yl
     go_loopw [27] (fun _ wr => ∃ (left : Lit → Bool) (lc cnt' : Nat) (L' : Str → Bool), Hid (CirR g w wr wo.heap.size n L' cnt' left lc) ∧ Hid (Rnd g L L' cnt cnt' (fun s => left (litS s)))) (fun _ wr => wr.rangeLeft (w.heap.size + 1) wo.heap.size)
     case atStart => exact ⟨_, _, _, _, HR0, HRN0⟩
     case round =>
      clear HR0 HRN0
      obtain ⟨left, lc, cnt', L', HCR, HRN⟩ := hrel
      obtain ⟨D', hrg, hrep, hsz', hlh⟩ := HCR.out.rng
      go_wp2_with (at_next; refine wpList_next_ranges _ rfl _ rfl 9 (Maps.string_keyed Tryz.underlying9) anyElem Value.string id (fun key kl hkey => by obtain ⟨s, h1, _⟩ := keyOf_s hkey; exact ⟨s, h1⟩) (fun v y _ => ⟨v, rfl⟩) (w.heap.size + 1) wo.heap.size n D' left lc rfl hrg ?_ ?_)
      ·intro hc0 hl0
       have HSt' := hide (HRN.out.done (fun s => hl0 (litS s)) HSt.out)
       have HC' : Hid (CirW g w wr L' cnt' g.cats.length) := hide ⟨HCR.out.gram, HCR.out.box, ⟨n, hn, D', hrg.owns, fun s hs => ⟨by
        rw [(hrep s hs).1]
        unfold leftM
        cases L' s <;> rfl, (hrep s hs).2⟩, hsz'⟩, HCR.out.bel⟩
       have HH' := hide HRN.out.holds
       clear hrg hrep hlh hl0
       go_wp2
       go_roundw
       case rel => exact ⟨k + 1, _, _, by omega, by go_num, HC', HH', HSt'⟩
       case measure => simp [nI]; omega
      ·intro s c' kl y1 y2 w3 lc' hkey hlk hy hat hrg1 hlt1 hg1 hs1 hen
       obtain ⟨s', es, rfl, hok⟩ := keyOf_s hkey
       cases es
       have hLs : L' s = true := by rw [← (hrep s hok).1]; exact hlh _ hlk
       have hlh' : ∀ z, (left z && !z.sameKey (litS s)) = true → Maps.has D' z = true := fun z hz => hlh z (by rw [Bool.and_eq_true] at hz; exact hz.1)
       have hl3 := HLT.out
       have R3 : CirR g w w3 wo.heap.size n L' cnt' (fun z => left z && !z.sameKey (litS s)) lc' :=
        ⟨HCR.out.gram.grown hg1 (fun e => by have := Option.some.inj e; omega), HCR.out.box.grown hg1 (fun e => by have := Option.some.inj e; omega), ⟨D', hrg1, hrep, hsz', hlh'⟩,
         Below.grown HCR.out.bel hg1 HCR.out.bel.size (fun j hj => by cases hj; omega)⟩
       have hbq := kalloc (Below.refl w3.heap.size w3) (.cells #[.string s] 9)
       have R4 := hide (R3.belw hbq)
       have K := hide (contains136 135 #[.pointer (some ⟨w3.heap.size, 0, none⟩), .pointer (some ⟨w.heap.size + 2, 0, none⟩)] e135 (leadX L' s) g.rA g.rC g.rules _ (HG.out.bel R4.out.bel).rules (leadsP s L' _ _ _ (Blk.new w3 #[.string s] 9) R4.out.left _ (HG.out.bel R4.out.bel).rule HS.out.pcat))
       have HQ := hide (Blk.new w3 #[.string s] 9)
       have c5 := R3.gram.cell (v := .slice g.rA g.rules.length g.rC) 5 rfl
       have cl := R3.gram.lt
       have hlc : wr.rangeLeft (w.heap.size + 1) wo.heap.size = lc := hrg.left_eq
       have HLC := hide hlc
       have HLK := hide (show ∀ s2, (fun z => left z && !z.sameKey (litS s)) (litS s2) = (left (litS s2) && !decide (s2 = s)) from fun s2 => by
        show (left (litS s2) && !(litS s2).sameKey (litS s)) = _
        rw [same_lit])
       have hlead : leadB g.rules L' s = g.rules.any (leadX L' s) := rfl
       rw [← hlead] at K
       have HLB := hide hlead
       have HLS := hide hLs
       have HLT1 := hide hlt1
       generalize hr : leadB g.rules L' s = r at K
       have HRB := hide hr
       clear hrg hrep hlh hlk hrg1 hy hat hg1 hs1 hlh' R3 hbq hlc hlead hl3 hr hLs hlt1
       go_wp2_with fail
       refine K.out.mono ?_
       rintro e w5 ⟨rfl, hb⟩
       have R5 := hide (R4.out.belw hb)
       have Q5 := hide (HQ.out.bel hb)
       clear hb K R4 HQ c5 cl hen
       cases r
       ·have q0 := Q5.out.cell (v := .string s) 0 rfl
        have ql := Q5.out.lt
        have y0 := R5.out.box.cell (v := .map (some (w.heap.size + 1))) 0 rfl
        have yl := R5.out.box.lt
        obtain ⟨D5, hrg5, hrep5, hsz5, hlh5⟩ := R5.out.rng
        go_wp2_with (at_delete; refine wpList_delete_ranges _ rfl _ _ 217 9 rfl 4 (Maps.string_keyed Tryz.underlying9) Tryz.underlying217 anyElem (w.heap.size + 1) wo.heap.size n D5 _ lc' rfl hrg5 (.string s) (litS s) rfl (keyS.of hok) ?_; intro w6 lc6 hrg6 hle6 ht6)
        have hg6 := ht6.grown
        have hnb : ∀ {p : Nat} {ty : TypeId} {cs : Array Value}, Blk w5 p ty cs → some p ≠ some (w.heap.size + 1) := fun h e => by
         obtain ⟨es, clock, hb5, _⟩ := hrg5.owns
         have := Option.some.inj e
         subst this
         have := h.at_
         rw [hb5] at this; cases this
        have hsd := Maps.size_del (k := litS s) (hrg5.owns.tidy (Maps.string_keyed Tryz.underlying9))
        have hhas : Maps.has D5 (litS s) = true := by rw [(hrep5 s hok).1]; exact HLS.out
        rw [hhas, if_pos rfl, hsz5] at hsd
        have HRD := hide (HRN.out.drop (cnt' := Maps.size (D5.del (litS s))) (left' := fun s2 => (left (litS s2) && !(litS s2).sameKey (litS s)) && !(litS s2).sameKey (litS s)) HRB.out HLS.out hsd)
        have R6 := hide (show CirR g w w6 wo.heap.size n (strike L' s) (Maps.size (D5.del (litS s))) (fun z => (left z && !z.sameKey (litS s)) && !z.sameKey (litS s)) lc6 from
         ⟨R5.out.gram.grown hg6 (hnb R5.out.gram), R5.out.box.grown hg6 (hnb R5.out.box), ⟨_, hrg6, hrep5.del s, rfl, fun z hz => by
          simp only [Bool.and_eq_true, Bool.not_eq_true'] at hz
          have hne : z ≠ litS s := fun e => by
           rw [e, WideAt.sameKey_self (by simp [litS, WideAt.IsKeyLit])] at hz
           cases hz.2
          rw [Maps.has_del_other hne]
          exact hlh5 z (by simp only [Bool.and_eq_true, Bool.not_eq_true']; exact hz.1)⟩, below_grown' R5.out.bel hg6 (by omega)⟩)
        have hm6 := hide (show w6.rangeLeft (w.heap.size + 1) wo.heap.size < wr.rangeLeft (w.heap.size + 1) wo.heap.size by
         rw [hrg6.left_eq, HLC.out]; have := HLT1.out; omega)
        clear hrg6 hrg5 hrep5 hsz5 hlh5 hg6 ht6 hsd hhas q0 ql y0 yl hnb
        go_frame
        go_roundw
        case rel => exact ⟨_, _, _, _, R6, HRD⟩
        case measure => exact hm6.out
       ·have HRK := hide (HRN.out.keep HRB.out HLK.out)
        have hm6 := hide (show w5.rangeLeft (w.heap.size + 1) wo.heap.size < wr.rangeLeft (w.heap.size + 1) wo.heap.size by
         obtain ⟨D5, hrg5, _⟩ := R5.out.rng
         rw [hrg5.left_eq, HLC.out]; exact HLT1.out)
        go_wp2
        go_roundw
        case rel => exact ⟨_, _, _, _, R5, HRK⟩
        case measure => exact hm6.out
    ·obtain rfl : k = g.cats.length := by omega
     obtain ⟨n, hn, hM⟩ := HC.out.map
     have hlen := fun ty => hM.len Tryz.underlying217 ty
     have hcn : cnt = 0 ↔ ∀ a, okS a → leftM L a = none := hM.none_ (Maps.string_keyed Tryz.underlying9) (fun key kl hk => by obtain ⟨s, _, h1, h2⟩ := keyOf_s hk; exact ⟨s, h2, h1⟩)
     have hcI : Circ g ↔ 0 < cnt := by
      have hst : Stab g L := by
       rcases HSt.out with h | h
       ·exact h
       ·have h0 : cnt = 0 := by omega
        intro c hc
        have := hcn.1 h0 c (HS.out.cats c (HH.out.1 c hc))
        unfold leftM at this
        rw [if_pos hc] at this; cases this
      rw [circ_iff HH.out hst]
      constructor
      ·rintro ⟨c, hc⟩
       rcases Nat.eq_zero_or_pos cnt with h0 | h0
       ·have := hcn.1 h0 c (HS.out.cats c (HH.out.1 c hc))
        unfold leftM at this
        rw [if_pos hc] at this; cases this
       ·exact h0
      ·intro h0
       refine Classical.byContradiction fun hn => ?_
       have : cnt = 0 := hcn.2 fun a _ => by
        unfold leftM
        rw [if_neg fun h => hn ⟨a, h⟩]
       omega
     have hR : R = decide (0 < cnt) := by
      rw [HR.out]
      exact decide_eq_decide.2 hcI
     have HRR := hide hR
     have HB := hide HC.out.bel
     clear hcn hcI hR hM HR
     go_wp2
     go_ret
     exact ⟨ret_bool HRR.out.symm, HB.out⟩
end Go.Proofs.YtkfdafeonhnloaaGreatDoor
