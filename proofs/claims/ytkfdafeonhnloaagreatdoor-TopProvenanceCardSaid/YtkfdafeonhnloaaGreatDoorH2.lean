/-
 The references' SameInts, SameTarget, Same, SameTree.
-/
import Derived.Test.YtkfdafeonhnloaaGreatDoorD16
import Derived.Test.YtkfdafeonhnloaaGreatDoorGM24
namespace Go.Proofs.YtkfdafeonhnloaaGreatDoor
open Go.RowKit Go.Shelf Go.Mine Go.Mine.C
attribute [local go_sem] Oper.semAt_some
set_option maxHeartbeats 4000000 in
theorem sameInts86 (A B : Option Addr) (c d : Nat) (la lb : List Int) (w : World) (hA : Sl ic 1 w A c la) (hB : Sl ic 1 w B d lb) :
  Calls Tryz.prog 86 #[.slice A la.length c, .slice B lb.length d] w fun e w' => e = .returned (.bool (decide (la = lb))) ∧ Below w.heap.size w w' := by
 have a1 := hA.le
 have a2 := hA.max
 have b1 := hB.le
 have b2 := hB.max
 by_cases hl : la.length = lb.length
 ·have g1 : ((la.length : Int) != (lb.length : Int)) = false := by simp [hl]
  have HL := hide hl
  clear hl
  go_enter Tryz.func86, Tryz.ntmps86
  go_wp2
  go_loopw [5] (fun i wr => ∃ (k : Nat), k ≤ la.length ∧ i = .int .i64 k ∧ la.take k = lb.take k ∧ Below w.heap.size w wr) (fun i _ => la.length - (Go.Mine.nI i).toNat)
  case atStart => exact ⟨0, Nat.zero_le _, rfl, rfl, Below.refl _ _⟩
  case round =>
   obtain ⟨k, hk, rfl, ht, hb⟩ := hrel
   by_cases hlt : k < la.length
   ·obtain ⟨x, ba, oa, hx, _, rfl, _, p1⟩ := Sl.ic_at (hA.bel hb) hlt
    obtain ⟨y, bb, ob, hy, _, rfl, _, q1⟩ := Sl.ic_at (hB.bel hb) (show k < lb.length by rw [← HL.out]; exact hlt)
    have hkb : (k : Int) < lb.length := by have := HL.out; omega
    have HT := hide ht
    have HX := hide hx
    have HY := hide hy
    clear ht hx hy hA hB
    by_cases hxy : x = y
    ·subst hxy
     go_wp2_with fail
     refine wp_still_all (by kernel_rfl) (by kernel_rfl) ?_
     repeat ((with_reducible refine wpStill_step (fun K hK => ?_)); go_simp; (try go_bits); (with_reducible refine hK _ ?_); clear hK K)
     (with_reducible refine wpStill_nil ?_)
     go_wp2
     go_roundw
     case rel => exact ⟨k + 1, by omega, by go_num, by rw [take_of_get HX.out, take_of_get HY.out, HT.out], hb.drew⟩
     case measure => simp [Go.Mine.nI]; omega
    ·have hne : la ≠ lb := by
      intro e; subst e
      have := HX.out.symm.trans HY.out
      exact hxy (by simpa using this)
     have HN := hide hne
     clear hne
     go_wp2_with fail
     refine wp_still_all (by kernel_rfl) (by kernel_rfl) ?_
     repeat ((with_reducible refine wpStill_step (fun K hK => ?_)); go_simp; (try go_bits); (with_reducible refine hK _ ?_); clear hK K)
     (with_reducible refine wpStill_nil ?_)
     go_wp2
     go_ret
     exact ⟨ret_bool (by simp [HN.out]), hb.drew⟩
   ·have HT := hide ht
    clear ht
    go_wp2
    go_ret
    refine ⟨ret_bool ?_, hb⟩
    have h := HT.out
    rw [List.take_of_length_le (by omega), List.take_of_length_le (by have := HL.out; omega)] at h
    simp [h]
 ·have g1 : ((la.length : Int) != (lb.length : Int)) = true := by rw [bne_iff_ne]; omega
  go_enter Tryz.func86, Tryz.ntmps86
  go_wp2
  go_ret
  exact ⟨ret_bool (by simp; intro e; exact hl (by rw [e])), Below.refl _ _⟩
set_option maxRecDepth 100000 in
set_option maxHeartbeats 4000000 in
theorem target48 (x y : TargH) (w : World) (h : x.m = y.m) (hx : TargOk w x) (hy : TargOk w y) : Calls Tryz.prog 48 #[targV x, targV y] w fun e w' => e = .returned (.bool true) ∧ Below w.heap.size w w' := by
 obtain ⟨xt, xA, xC, xd, xn⟩ := x
 obtain ⟨yt, yA, yC, yd, yn⟩ := y
 have h1 : xt = yt := congrArg TargM.text h
 have h2 : xd = yd := congrArg TargM.deps h
 have h3 : xn = yn := congrArg TargM.term h
 subst h1 h2 h3
 have hx' : Sl ic 1 w xA xC xd := hx
 have hy' : Sl ic 1 w yA yC xd := hy
 have K := hide (fun W (hb : Below w.heap.size w W) => sameInts86 xA yA xC yC xd xd W (hx'.bel hb) (hy'.bel hb))
 simp only [decide_true] at K
 have hb := kalloc (kalloc (Below.refl w.heap.size w) (.cells #[.string xt, .slice xA xd.length xC, .int .i64 xn] 42)) (.cells #[.string xt, .slice yA xd.length yC, .int .i64 xn] 42)
 have HB := hide hb
 clear hx hy hx' hy' h hb
 simp only [targV]
 go_enter Tryz.func48, Tryz.ntmps48
 go_wp2_with fail
 refine (K.out _ HB.out).mono ?_
 rintro e w1 ⟨rfl, hb1⟩
 go_wp2
 go_ret
 exact ⟨rfl, kcall HB.out hb1⟩
set_option maxRecDepth 100000 in
set_option maxHeartbeats 4000000 in
theorem same17 (A B : Option Addr) (c d : Nat) (xs ys : List TargH) (w : World) (hx : Sl targC 3 w A c xs) (hy : Sl targC 3 w B d ys) (hxo : ∀ x ∈ xs, TargOk w x) (hyo : ∀ y ∈ ys, TargOk w y) (h : xs.map TargH.m = ys.map TargH.m) :
  Calls Tryz.prog 17 #[.slice A xs.length c, .slice B ys.length d] w fun e w' => e = .returned (.bool true) ∧ Below w.heap.size w w' := by
 have hl := congrArg List.length h
 rw [List.length_map, List.length_map] at hl
 have a1 := hx.le
 have a2 := hx.max
 have b1 := hy.le
 have b2 := hy.max
 have HX := hide hx
 have HY := hide hy
 have HXO := hide hxo
 have HYO := hide hyo
 have HM := hide h
 have HL := hide hl
 have g1 : ((xs.length : Int) != (ys.length : Int)) = false := by simp [hl]
 clear hx hy hxo hyo h hl
 go_enter Tryz.func17, Tryz.ntmps17
 go_wp2_with fail
 go_loopw [5] (fun i wr => ∃ (k : Nat), k ≤ xs.length ∧ i = .int .i64 k ∧ Hid (Below w.heap.size w wr)) (fun i _ => xs.length - (Go.Mine.nI i).toNat)
 case atStart => exact ⟨0, Nat.zero_le _, rfl, hide (Below.refl _ _)⟩
 case round =>
  obtain ⟨k, hk, rfl, HB⟩ := hrel
  by_cases hlt : k < xs.length
  ·obtain ⟨x, ba, oa, hxk, _, hA, hba, p0, p1, p2⟩ := targ_at (HX.out.bel HB.out) hlt
   obtain ⟨y, bb, ob, hyk, _, hBB, hbb, q0, q1, q2⟩ := targ_at (HY.out.bel HB.out) (show k < ys.length by rw [← HL.out]; exact hlt)
   have hxy : x.m = y.m := by
    have e1 : (xs.map TargH.m)[k]? = some x.m := by rw [List.getElem?_map, hxk]; rfl
    have e2 : (ys.map TargH.m)[k]? = some y.m := by rw [List.getElem?_map, hyk]; rfl
    rw [HM.out, e2] at e1
    exact (Option.some.inj e1).symm
   have K := hide (target48 x y wr.drew hxy (((HXO.out x (List.mem_of_getElem? hxk)).bel HB.out).bel (Below.refl _ _).drew) (((HYO.out y (List.mem_of_getElem? hyk)).bel HB.out).bel (Below.refl _ _).drew))
   simp only [targV] at K
   have hkb : (k : Int) < ys.length := by have := HL.out; omega
   cases hA
   cases hBB
   clear hxk hyk hxy
   go_wp2_with fail
   refine wp_still_tail 8 (by kernel_rfl) (by kernel_rfl) ?_
   simp only [List.take_succ_cons, List.take_zero, List.drop_succ_cons, List.drop_zero]
   repeat ((with_reducible refine wpStill_step (fun K hK => ?_)); go_simp; (try go_bits); (with_reducible refine hK _ ?_); clear hK K)
   (with_reducible refine wpStill_nil ?_)
   go_wp2_with fail
   refine K.out.mono ?_
   rintro e w1 ⟨rfl, hb1⟩
   have HB1 := hide (kcall HB.out.drew hb1)
   clear hb1 K HB p0 p1 p2 q0 q1 q2 hba hbb
   go_wp2
   go_roundw
   case rel => exact ⟨k + 1, by omega, by go_num, HB1⟩
   case measure => simp [Go.Mine.nI]; omega
  ·obtain rfl : k = xs.length := by omega
   go_wp2
   go_ret
   exact ⟨rfl, HB.out⟩
theorem tree16 {w : World} {h : TreeH} {t : Tree} (hr : TreeR (fun _ => False) w h t) : ∀ {h' : TreeH} {t' : Tree}, TreeR (fun _ => False) w h' t' → ∀ W, Below w.heap.size w W → Calls Tryz.prog 16 #[treeV h, treeV h'] W fun e w' => (∃ b, e = .returned (.bool b) ∧ (b = true → t = t')) ∧ Below W.heap.size W w' := by
 induction hr with
 | leaf =>
  rename_i i f u
  intro h' t' hr' W hb
  have hb2 := fun (a b : Array Value) => kalloc (kalloc (Below.refl W.heap.size W) (.cells a 52)) (.cells b 52)
  cases hr' with
  | leaf =>
   rename_i i' f' u'
   simp only [treeV]
   by_cases h1 : i = i'
   ·subst h1
    by_cases h2 : f = f'
    ·subst h2
     by_cases h3 : u = u'
     ·subst h3
      go_enter Tryz.func16, Tryz.ntmps16
      go_wp2_with fail
      go_loopw [5] (fun iv wr => iv = .int .i64 0 ∧ wr = (W.alloc (.cells #[.int .i64 (-1), .int .i64 i, .int .i64 f, .int .i64 u, .slice none 0 0] 52)).alloc (.cells #[.int .i64 (-1), .int .i64 i, .int .i64 f, .int .i64 u, .slice none 0 0] 52)) (fun _ _ => 0)
      case atStart => exact ⟨rfl, rfl⟩
      case round =>
       obtain ⟨rfl, rfl⟩ := hrel
       go_wp2
       go_ret
       exact ⟨⟨true, rfl, by simp⟩, hb2 _ _⟩
     ·have g3 : (u != u') = true := by rw [bne_iff_ne]; exact h3
      go_enter Tryz.func16, Tryz.ntmps16
      go_wp2
      go_ret
      exact ⟨⟨false, rfl, fun h => by cases h⟩, hb2 _ _⟩
    ·have g2 : (f != f') = true := by rw [bne_iff_ne]; exact h2
     go_enter Tryz.func16, Tryz.ntmps16
     go_wp2
     go_ret
     exact ⟨⟨false, rfl, fun h => by cases h⟩, hb2 _ _⟩
   ·have g1 : (((i : Nat) : Int) != ((i' : Nat) : Int)) = true := by rw [bne_iff_ne]; omega
    go_enter Tryz.func16, Tryz.ntmps16
    go_wp2
    go_ret
    exact ⟨⟨false, rfl, fun h => by cases h⟩, hb2 _ _⟩
  | node hs hl hk =>
   rename_i r' f' u' A' c' kids' ks'
   simp only [treeV]
   have g1 : ((-1 : Int) != ((r' : Nat) : Int)) = true := by rw [bne_iff_ne]; omega
   clear hs hl hk
   go_enter Tryz.func16, Tryz.ntmps16
   go_wp2
   go_ret
   exact ⟨⟨false, rfl, fun h => by cases h⟩, hb2 _ _⟩
 | node hs hl hk ih =>
  rename_i r f u A c kids ks
  intro h' t' hr' W hb
  have hb2 := fun (a b : Array Value) => kalloc (kalloc (Below.refl W.heap.size W) (.cells a 52)) (.cells b 52)
  cases hr' with
  | leaf =>
   rename_i i' f' u'
   simp only [treeV]
   have g1 : (((r : Nat) : Int) != (-1 : Int)) = true := by rw [bne_iff_ne]; omega
   clear hs hl hk ih
   go_enter Tryz.func16, Tryz.ntmps16
   go_wp2
   go_ret
   exact ⟨⟨false, rfl, fun h => by cases h⟩, hb2 _ _⟩
  | node hs' hl' hk' =>
   rename_i r' f' u' A' c' kids' ks'
   have hle := hs.sl.le
   have hmx := hs.sl.max
   have hle' := hs'.sl.le
   have hmx' := hs'.sl.max
   have HS := hide hs.sl
   have HS' := hide hs'.sl
   have HL := hide hl
   have HL' := hide hl'
   have HIH := hide @ih
   have HK' := hide hk'
   have HB := hide hb
   clear hs hs' hl hl' hk hk' ih hb
   simp only [treeV]
   by_cases h1 : r = r'
   ·subst h1
    by_cases h2 : f = f'
    ·subst h2
     by_cases h3 : u = u'
     ·subst h3
      by_cases h4 : kids.length = kids'.length
      ·have g4 : ((kids.length : Int) != (kids'.length : Int)) = false := by simp [h4]
       have HLL := hide h4
       clear h4
       obtain ⟨W1, hW1⟩ : ∃ W1, W1 = (W.alloc (.cells #[.int .i64 r, .int .i64 (-1), .int .i64 f, .int .i64 u, .slice A kids.length c] 52)).alloc (.cells #[.int .i64 r, .int .i64 (-1), .int .i64 f, .int .i64 u, .slice A' kids'.length c'] 52) := ⟨_, rfl⟩
       have hbw : Below W.heap.size W W1 := by rw [hW1]; exact hb2 _ _
       have HBA : Hid (Blk W1 W.heap.size 52 #[.int .i64 r, .int .i64 (-1), .int .i64 f, .int .i64 u, .slice A kids.length c]) := hide (by rw [hW1]; exact (Blk.new W _ _).alloc _)
       have HBB : Hid (Blk W1 (W.heap.size + 1) 52 #[.int .i64 r, .int .i64 (-1), .int .i64 f, .int .i64 u, .slice A' kids'.length c']) := hide (by rw [hW1]; exact Blk.new1 W _ _ _)
       have HBW := hide hbw
       clear hbw hb2
       go_enter Tryz.func16, Tryz.ntmps16
       go_wp2_with fail
       rw [← hW1]
       clear hW1
       go_loopw [5] (fun iv wr => ∃ k : Nat, k ≤ kids.length ∧ iv = .int .i64 k ∧ Hid (ks.take k = ks'.take k) ∧ Hid (Below W1.heap.size W1 wr)) (fun iv _ => kids.length - (Go.Mine.nI iv).toNat)
       case atStart => exact ⟨0, Nat.zero_le _, rfl, hide rfl, hide (Below.refl _ _)⟩
       case round =>
        obtain ⟨k, hk, rfl, HT, HBR⟩ := hrel
        have hba := HBA.out.bel HBR.out
        have hbb := HBB.out.bel HBR.out
        have a4 := hba.cell (v := .slice A kids.length c) 4 rfl
        have al := hba.lt
        have b4 := hbb.cell (v := .slice A' kids'.length c') 4 rfl
        have bl := hbb.lt
        have hwr := kcall HB.out (kcall HBW.out HBR.out)
        clear hba hbb
        by_cases hlt : k < kids.length
        ·obtain ⟨x, ab, ao, hxk, _, hA, hab, p0, p1, p2, p3, p4⟩ := treeh_at (HS.out.bel hwr) hlt
         obtain ⟨y, bb, bo, hyk, _, hB, hbb, q0, q1, q2, q3, q4⟩ := treeh_at (HS'.out.bel hwr) (show k < kids'.length by rw [← HLL.out]; exact hlt)
         have hkl : (k : Int) < kids'.length := by have := HLL.out; omega
         obtain ⟨tx, htx⟩ : ∃ tx, ks[k]? = some tx := ⟨_, List.getElem?_eq_getElem (by rw [← HL.out]; exact hlt)⟩
         obtain ⟨ty, hty⟩ : ∃ ty, ks'[k]? = some ty := ⟨_, List.getElem?_eq_getElem (by rw [← HL'.out, ← HLL.out]; exact hlt)⟩
         have K := HIH.out k x tx hxk htx (HK'.out k y ty hyk hty) wr.drew hwr.drew
         simp only [treeV] at K
         replace K := hide K
         have HTX := hide htx
         have HTY := hide hty
         cases hA
         cases hB
         clear hxk hyk htx hty hwr
         go_wp2_with fail
         refine wp_still_tail 10 (by kernel_rfl) (by kernel_rfl) ?_
         simp only [List.take_succ_cons, List.take_zero, List.drop_succ_cons, List.drop_zero]
         repeat ((with_reducible refine wpStill_step (fun K hK => ?_)); go_simp; (try go_bits); (with_reducible refine hK _ ?_); clear hK K)
         (with_reducible refine wpStill_nil ?_)
         go_wp2_with fail
         refine K.out.mono ?_
         rintro e w1 ⟨⟨b, rfl, hbt⟩, hb1⟩
         have HB1 := hide (kcall HBR.out.drew hb1)
         have HBT := hide hbt
         clear hb1 hbt K HBR p0 p1 p2 p3 p4 q0 q1 q2 q3 q4 a4 b4 al bl
         cases b
         ·go_wp2
          go_ret
          exact ⟨⟨false, rfl, fun h => by cases h⟩, kcall HBW.out HB1.out⟩
         ·have HN := hide (show ks.take (k + 1) = ks'.take (k + 1) by rw [take_of_get HTX.out, take_of_get HTY.out, HT.out, HBT.out rfl])
          go_wp2
          go_roundw
          case rel => exact ⟨k + 1, by omega, by go_num, HN, HB1⟩
          case measure => simp [Go.Mine.nI]; omega
        ·obtain rfl : k = kids.length := by omega
         have HEQ := hide (show ks = ks' by
          have h := HT.out
          rw [List.take_of_length_le (by rw [← HL.out]; exact Nat.le_refl _), List.take_of_length_le (by rw [← HL'.out, ← HLL.out]; exact Nat.le_refl _)] at h
          exact h)
         go_wp2
         go_ret
         exact ⟨⟨true, rfl, fun _ => by rw [HEQ.out]⟩, kcall HBW.out HBR.out⟩
      ·have g4 : ((kids.length : Int) != (kids'.length : Int)) = true := by rw [bne_iff_ne]; omega
       go_enter Tryz.func16, Tryz.ntmps16
       go_wp2
       go_ret
       exact ⟨⟨false, rfl, fun h => by cases h⟩, hb2 _ _⟩
     ·have g3 : (u != u') = true := by rw [bne_iff_ne]; exact h3
      go_enter Tryz.func16, Tryz.ntmps16
      go_wp2
      go_ret
      exact ⟨⟨false, rfl, fun h => by cases h⟩, hb2 _ _⟩
    ·have g2 : (f != f') = true := by rw [bne_iff_ne]; exact h2
     go_enter Tryz.func16, Tryz.ntmps16
     go_wp2
     go_ret
     exact ⟨⟨false, rfl, fun h => by cases h⟩, hb2 _ _⟩
   ·have g1 : (((r : Nat) : Int) != ((r' : Nat) : Int)) = true := by rw [bne_iff_ne]; omega
    go_enter Tryz.func16, Tryz.ntmps16
    go_wp2
    go_ret
    exact ⟨⟨false, rfl, fun h => by cases h⟩, hb2 _ _⟩
end Go.Proofs.YtkfdafeonhnloaaGreatDoor
