/-
  translate: numbers in a row; concatenated; sorted, each once; a row that is full is appended to.
  translate: slices.Grow of nothing, slices.Concat.
-/
import Derived.Test.YtkfdafeonhnloaaGreatDoorGM17
import Derived.Test.YtkfdafeonhnloaaGreatDoorGM3
import Derived.Sort.OwnSortedInts
import Derived.Lib.AppendZerosOnto
import Derived.ArgAppend
namespace Go.Mine
open Go.RowKit
section
variable {α : Type} {f : α → List Value} {sz : Nat} {e : TypeId} {P : Program} {w : World}
theorem run_full {t ty : TypeId} {i : TypeInfo} {z : Value} {bytes : Nat} (ht : P.underlying t = some (.slice e)) (hi : P.info? e = some i) (hz : i.zero = some z)
  (hsize : i.size = sz) (hby : i.bytes = bytes) (hzs : z.cells.size = sz) (hsz : 0 < sz)
  {A : Option Addr} {l1 l2 : List α} (h0 : Sl f sz w A l1.length l1) {B : Option Addr} {c : Nat} (h2 : Sl f sz w B c l2) (hn : l2 ≠ [])
  (h1 : ∀ x ∈ l2, ∀ u ∈ f x, u.oneCell' = true) (h63 : l1.length + l2.length ≤ maxLen) (hbytes : (l1.length + l2.length) * bytes ≤ 140737488355328) :
  ∃ v' w', (Builtin.append_ #[t, t] ty #[.slice A l1.length l1.length, .slice B l2.length c]).run P w = .ok v' w' ∧ OwnL f sz e w' w.heap.size v' (l1 ++ l2) ∧ w.grownBy w' none := by
 have hs2 : ∀ x ∈ l1 ++ l2, (f x).length = sz := fun x hx => by
  rcases List.mem_append.1 hx with hx | hx
  ·exact h0.size x hx
  ·exact h2.size x hx
 cases A with
 | none =>
  have hl : l1 = [] := by
   rcases Classical.em (l1 = []) with h | h
   ·exact h
   ·obtain ⟨b, off, hh, _⟩ := h0.cells h; cases hh
  subst hl
  obtain ⟨v', w', hr, ho, hg, _⟩ := run_extend (ty := ty) ht hi hz hsize hby hzs hsz (OwnL.nil f sz e w w.heap.size) h2 h1 h63 hbytes (Nat.le_refl _)
  exact ⟨v', w', hr, ho, hg⟩
 | some a =>
  obtain ⟨b, off, hB, _, hcells⟩ := h2.cells hn
  subst hB
  have hadd : ∀ (b off j : Nat), ((⟨b, off, none⟩ : Addr).add j) = ⟨b, off + j, none⟩ := fun b off j => by unfold Addr.add; split <;> simp_all
  have hpos : 0 < l2.length := List.length_pos_iff.2 hn
  obtain ⟨v', w', hr, ho, hg⟩ := run_append_arg_grows (P := P) w t ty e i z sz bytes ht hi hz hsize hby hzs hsz a l1.length l1.length (l1.flatMap f) (flat_length f sz l1 h0.size) (fun j u hj => by
    have hne : l1 ≠ [] := by rintro rfl; simp at hj
    obtain ⟨b', off', ha, _, hc⟩ := h0.cells hne
    obtain rfl : a = ⟨b', off', none⟩ := by simpa using ha
    rw [hadd]; exact hc j u hj)
   ⟨b, off, none⟩ l2.length c (l2.flatMap f) (flat_length f sz l2 h2.size) (fun j u hj => by rw [hadd]; exact hcells j u hj) (by omega) h63 hbytes
  rw [← List.length_append, ← List.flatMap_append] at ho
  exact ⟨v', w', hr, ⟨ho, hs2⟩, hg⟩
end
end Go.Mine
namespace Go.Mine.C
open Go.RowKit Go.Mine
theorem span_len (f u : Int) : (span f u).length = (u - f).toNat := by simp [span]
theorem span_get {f u : Int} {k : Nat} (h : k < (u - f).toNat) : (span f u)[k]? = some (f + (k : Int)) := by
 unfold span
 rw [List.getElem?_map, List.getElem?_range h]
 rfl
theorem compact_mem {zs : List Int} (hs : zs.Pairwise (· ≤ ·)) : ∀ m, m ≤ zs.length → (Lib.compactUpTo zs.toArray m).Pairwise (· < ·) ∧ ∀ x, x ∈ Lib.compactUpTo zs.toArray m ↔ x ∈ zs.take m
 | 0, _ => ⟨.nil, fun x => by simp [Lib.compactUpTo]⟩
 | m + 1, hm => by
  obtain ⟨h1, h2⟩ := compact_mem hs m (by omega)
  rw [Lib.compactUpTo_succ]
  have hg : zs.toArray[m]! = zs[m] := by simp [show m < zs.length by omega]
  have htk : zs.take (m + 1) = zs.take m ++ [zs[m]] := (List.take_append_getElem (by omega)).symm
  have hord : ∀ x ∈ zs.take m, x ≤ zs[m] := fun x hx => by
   obtain ⟨i, hi, rfl⟩ := List.mem_iff_getElem.1 hx
   rw [List.length_take] at hi
   rw [List.getElem_take]
   exact List.pairwise_iff_getElem.1 hs i m (by omega) (by omega) (by omega)
  by_cases hk : Lib.keeps zs.toArray m = true
  ·rw [if_pos hk, hg]
   have hlt : ∀ x ∈ zs.take m, x < zs[m] := fun x hx => by
    unfold Lib.keeps at hk
    rw [decide_eq_true_eq] at hk
    obtain ⟨i, hi, rfl⟩ := List.mem_iff_getElem.1 hx
    rw [List.length_take] at hi
    rcases hk with hk | hk
    ·omega
    ·rw [hg] at hk
     have hg1 : zs.toArray[m - 1]! = zs[m - 1] := by simp [show m - 1 < zs.length by omega]
     rw [hg1] at hk
     have a1 : zs[m - 1] ≤ zs[m] := List.pairwise_iff_getElem.1 hs (m - 1) m (by omega) (by omega) (by omega)
     have a2 : zs[i] ≤ zs[m - 1] := by
      by_cases e : i = m - 1
      ·subst e; exact Int.le_refl _
      ·exact List.pairwise_iff_getElem.1 hs i (m - 1) (by omega) (by omega) (by omega)
     rw [List.getElem_take]
     omega
   refine ⟨List.pairwise_append.2 ⟨h1, by simp, fun x hx y hy => ?_⟩, fun x => ?_⟩
   ·rw [List.mem_singleton] at hy
    subst hy
    exact hlt x ((h2 x).1 hx)
   ·rw [htk, List.mem_append, List.mem_append, h2]
  ·rw [if_neg hk, List.append_nil]
   refine ⟨h1, fun x => ?_⟩
   rw [h2, htk, List.mem_append, List.mem_singleton]
   have hk' : Lib.keeps zs.toArray m = false := by simpa using hk
   unfold Lib.keeps at hk'
   rw [decide_eq_false_iff_not] at hk'
   have hm0 : m ≠ 0 := fun e => hk' (.inl e)
   have he : zs.toArray[m]! = zs.toArray[m - 1]! := Classical.byContradiction fun e => hk' (.inr e)
   have hg1 : zs.toArray[m - 1]! = zs[m - 1] := by simp [show m - 1 < zs.length by omega]
   rw [hg, hg1] at he
   constructor
   ·exact .inl
   ·rintro (h | h)
    ·exact h
    ·rw [h, he]
     exact List.mem_iff_getElem.2 ⟨m - 1, by rw [List.length_take]; omega, by rw [List.getElem_take]⟩
theorem sorted_same : ∀ {a b : List Int}, a.Pairwise (· < ·) → b.Pairwise (· < ·) → (∀ x, x ∈ a ↔ x ∈ b) → a = b
 | [], [], _, _, _ => rfl
 | [], y :: b, _, _, h => by have := (h y).2 (by simp); simp at this
 | x :: a, [], _, _, h => by have := (h x).1 (by simp); simp at this
 | x :: a, y :: b, ha, hb, h => by
  obtain ⟨a1, a2⟩ := List.pairwise_cons.1 ha
  obtain ⟨b1, b2⟩ := List.pairwise_cons.1 hb
  have hxy : x = y := by
   rcases List.mem_cons.1 ((h x).1 (by simp)) with e | e
   ·exact e
   ·rcases List.mem_cons.1 ((h y).2 (by simp)) with e' | e'
    ·exact e'.symm
    ·have := b1 x e; have := a1 y e'; omega
  subst hxy
  rw [sorted_same a2 b2 fun z => ?_]
  constructor
  ·intro hz
   rcases List.mem_cons.1 ((h z).1 (List.mem_cons_of_mem _ hz)) with e | e
   ·subst e; have := a1 z hz; omega
   ·exact e
  ·intro hz
   rcases List.mem_cons.1 ((h z).2 (List.mem_cons_of_mem _ hz)) with e | e
   ·subst e; have := b1 z hz; omega
   ·exact e
theorem compact_norm (l : List Int) : Lib.compact (l.mergeSort fun x y => decide (x ≤ y)) = norm l := by
 have hs : (l.mergeSort fun x y => decide (x ≤ y)).Pairwise (· ≤ ·) := by
  have := List.pairwise_mergeSort (le := fun x y : Int => decide (x ≤ y)) (fun a b c h1 h2 => by rw [decide_eq_true_eq] at *; omega) (fun a b => by rw [Bool.or_eq_true, decide_eq_true_eq, decide_eq_true_eq]; omega) l
  exact this.imp fun h => of_decide_eq_true h
 obtain ⟨h1, h2⟩ := compact_mem hs _ (Nat.le_refl _)
 refine sorted_same h1 (norm_inc l) fun x => ?_
 rw [norm_mem]
 have := h2 x
 rw [List.take_length, List.mem_mergeSort] at this
 exact this
end Go.Mine.C
namespace Go.Proofs.YtkfdafeonhnloaaGreatDoor
open Go.RowKit Go.Shelf Go.Mine Go.Mine.C
attribute [local go_sem] Oper.semAt_some
theorem flat_ic (l : List Int) : l.flatMap ic = l.map (Value.int .i64) := by
 induction l with
 | nil => rfl
 | cons x l ih => rw [List.flatMap_cons, ih]; rfl
theorem sort54_own (base : Nat) (v : Value) (l : List Int) (w : World) (ho : OwnL ic 1 3 w base v l) (hn : l ≠ []) (hl : l.length ≤ 1000000) :
  Calls Tryz.prog 54 #[v] w fun e w' => e = .returned (.tuple #[]) ∧ OwnL ic 1 3 w' base v (l.mergeSort fun x y => decide (x ≤ y)) ∧ w.grownBy w' v.ownBlock := by
 obtain ⟨⟨hlen, h1⟩, hs⟩ := ho
 rcases h1 with ⟨_, h0⟩ | ⟨g, cap, cur, rfl, hg, hh, hnc, hcm, hz, ht⟩
 ·exact absurd (List.length_eq_zero_iff.1 h0) hn
 ·rw [flat_ic, Nat.mul_one] at ht
  have hH := holds_of_blockI hh ht
  refine (sh_slices_Sort_int g 0 cap l w hH (Array.getElem?_eq_some_iff.1 hh).1 (by omega)).mono ?_
  rintro e w' ⟨rfl, n, os, rfl⟩
  have hml : (l.mergeSort fun x y => decide (x ≤ y)).length = l.length := List.length_mergeSort _
  refine ⟨rfl, ⟨?_, fun _ _ => rfl⟩, grownBy_sortedI _⟩
  have := ownsRow_sortedI (base := base) (n := n) (os := os) hml hg hh hnc hcm hz
  rw [hml, flat_ic]
  exact this
theorem compact55_own (base : Nat) (v : Value) (l : List Int) (w : World) (ho : OwnL ic 1 3 w base v l) (hn : l ≠ []) (hl : l.length ≤ 1000000) :
  Calls Tryz.prog 55 #[v] w fun e w' => ∃ v', e = .returned v' ∧ v'.ownBlock = v.ownBlock ∧ OwnL ic 1 3 w' base v' (Lib.compact l) ∧ w.grownBy w' v.ownBlock := by
 obtain ⟨⟨hlen, h1⟩, hs⟩ := ho
 rcases h1 with ⟨_, h0⟩ | ⟨g, cap, cur, rfl, hg, hh, hnc, hcm, hz, ht⟩
 ·exact absurd (List.length_eq_zero_iff.1 h0) hn
 ·rw [flat_ic, Nat.mul_one] at ht
  have hH := holds_of_blockI hh ht
  refine (sh_slices_Compact_int g 0 cap l w hH (by omega) hnc).mono ?_
  rintro e w' ⟨rfl, q, rfl⟩
  have hle : (Lib.compact l).length ≤ l.length := by
   unfold Lib.compact Lib.compactUpTo
   rw [List.length_map]
   have := List.length_filter_le (Lib.keeps l.toArray) (List.range l.length)
   rwa [List.length_range] at this
  obtain ⟨ts, hts⟩ : ∃ ts, ts = Lib.compact l ++ List.replicate (l.length - (Lib.compact l).length) 0 := ⟨_, rfl⟩
  have htl : ts.length = l.length := by rw [hts, List.length_append, List.length_replicate]; omega
  rw [← hts]
  have hw := ownsRow_sortedI (base := base) (n := q) (os := #[]) (ts := ts) htl hg hh hnc hcm hz
  rw [Go.Sort.grow_empty] at hw
  have hgr := grownBy_sortedI (w := w) (g := g) (n := q) (os := #[]) ts.toArray
  rw [Go.Sort.grow_empty] at hgr
  refine ⟨_, rfl, rfl, ⟨?_, fun _ _ => rfl⟩, hgr⟩
  rcases hw.2 with ⟨hv, _⟩ | ⟨g', cap', cur', hv, k1, k2, k3, k4, k5, k6⟩
  ·cases hv
  ·injection hv with e1 e2 e3
   injection e1 with e1
   injection e1 with e1
   subst e1 e3
   refine ⟨by rw [flat_ic]; simp, .inr ⟨g, cap, cur', rfl, k1, k2, by omega, k4, k5, ?_⟩⟩
   rw [Nat.mul_one] at k6 ⊢
   have : cur'.toList.take (Lib.compact l).length = (cur'.toList.take l.length).take (Lib.compact l).length := by
    rw [List.take_take]; congr 1; omega
   rw [this, k6, hts, List.map_append, List.take_append_of_le_length (by simp), flat_ic]
   exact List.take_of_length_le (by rw [List.length_map]; exact Nat.le_refl _)
theorem span57 (f u : Int) (w : World) (h0 : 0 ≤ f) (hu : u ≤ 1000) : Calls Tryz.prog 57 #[.int .i64 f, .int .i64 u] w fun e w' => ∃ v, e = .returned v ∧ OwnL ic 1 3 w' w.heap.size v (span f u) ∧ Below w.heap.size w w' := by
 obtain ⟨i0, hi, hz0, hz1, hz2⟩ := info_parts Tryz_infoA3
 have HI := hide hi
 clear hi
 have HL := hide (span_len f u)
 have HG := hide (fun k => @span_get f u k)
 generalize span f u = L at *
 go_enter Tryz.func57, Tryz.ntmps57
 go_wp2
 go_loopw [4, 5] (fun v iv wr => ∃ k : Nat, k ≤ (u - f).toNat ∧ iv = .int .i64 (f + (k : Int)) ∧ OwnL ic 1 3 wr w.heap.size v (L.take k) ∧ Below w.heap.size w wr) (fun _ iv _ => (u - nI iv).toNat)
 case atStart => exact ⟨0, Nat.zero_le _, by simp, OwnL.nil _ _ _ _ _, Below.refl _ _⟩
 case round =>
  obtain ⟨k, hk, rfl, hO, hb⟩ := hrel
  have hN := hb.size
  by_cases hlt : k < (u - f).toNat
  ·have g1 : decide (f + (k : Int) < u) = true := decide_eq_true (by omega)
   obtain ⟨y, hy⟩ : ∃ y, y = f + (k : Int) := ⟨_, rfl⟩
   have HY := hide hy
   have hyb : 0 ≤ y ∧ y ≤ 1000 := by omega
   have hx : L[k]? = some y := by rw [hy]; exact HG.out k hlt
   have HT := hide (take_of_get hx)
   have hll : (L.take k).length ≤ 1000 := by rw [List.length_take]; omega
   have HO := hide hO
   rw [← hy] at g1 ⊢
   generalize L.take k = La at *
   clear hx hO hy
   go_wp2_with (at_builtin; refine wpList_push (f := ic) (y := y) (l := La) rfl (.tmp 12) (.tmp 14) 31 rfl Tryz.underlying31 HI.out hz0 hz1 hz2 rfl (by decide) rfl (HO.out.alloc _) rfl (heap_new _ _) rfl rfl ?_ ?_ ?_ ?_ ?_)
   ·simp [Value.oneCell', ic]
   ·simp only [maxLen]; omega
   ·omega
   ·first | omega | (simp; omega)
   ·intro v6 w6 hO6 hgr hat
    have H6 := hide hO6
    have hb6 := hide (Below.grown (hb.alloc hN (Obj.cells #[.int .i64 y] 3)) hgr (by simp; omega) (fun g hg => (HO.out.blk hg).1))
    clear hO6 hgr hat
    go_wp2
    go_roundw
    case rel => exact ⟨k + 1, by omega, by rw [HY.out]; go_num, by rw [HT.out]; exact H6.out, hb6.out⟩
    case measure => have := HY.out; simp [nI]; omega
  ·have g1 : decide (f + (k : Int) < u) = false := decide_eq_false (by omega)
   rw [List.take_of_length_le (by have := HL.out; omega)] at hO
   have HO := hide hO
   have hB := hide hb
   obtain ⟨A2, c2, rfl, -⟩ := hO.sl
   clear hO
   go_wp2
   go_ret
   exact ⟨_, rfl, HO.out, hB.out⟩
end Go.Proofs.YtkfdafeonhnloaaGreatDoor
namespace Go.Mine
open Go.RowKit
theorem wpList_append2 {P : Program} {w : World} {ops : Array Oper} {rest : List Oper} {o : Oper} {a : Act} {Q : Exit → Act → World → Prop} (hg : o.guard = none) (s x : Operand) (t t2 : TypeId)
  (hop : o.op = Op.call { callee := Callee.builtin Builtin.append, args := #[s, x], argTypes := #[t, t2] }) {v u : Value} (hs : a.eval s = v) (hx : a.eval x = u) {G : Value → World → Prop}
  (hrun : ∃ v' w', (Builtin.append_ #[t, t2] o.type #[v, u]).run P w = .ok v' w' ∧ G v' w') (hK : ∀ v' w', G v' w' → wpList P ops Q rest (a.put o.dst v') w') :
  wpList P ops Q (o :: rest) a w := by
 refine wpList_plain hg fun K hK' => ?_
 obtain ⟨v', w', hr, hG⟩ := hrun
 unfold Oper.wp execOp
 simp only [hop, resolve, invoke, builtin, Sem.run_bind, Sem.run_pure, Result.andThen_ok, List.map_toArray, List.map_cons, List.map_nil, hs, hx, hr]
 exact hK' _ _ (hK _ _ hG)
theorem hd_at {w : World} {A : Option Addr} {c : Nat} {es : List Hd} (h : Sl hc 1 w A c es) {k : Nat} (hk : k < es.length) : ∃ (x : Hd) (b off : Nat), es[k]? = some x ∧ A = some ⟨b, off, none⟩ ∧ b < w.heap.size ∧ w.cell? ⟨b, off + k, none⟩ = some (.slice x.1 x.2.2.length x.2.1) := by
 obtain ⟨x, b, off, hx, _, e, hb, hc⟩ := h.at_ hk
 exact ⟨x, b, off, hx, e, hb, by simpa using hc 0 _ rfl⟩
def catL (es : List Hd) : List Int := es.flatMap fun e => e.2.2
theorem catL_snoc {es : List Hd} {k : Nat} {x : Hd} (h : es[k]? = some x) : catL (es.take (k + 1)) = catL (es.take k) ++ x.2.2 := by
 unfold catL
 rw [take_of_get h, List.flatMap_append]
 simp
theorem catL_take (es : List Hd) (k : Nat) : (catL (es.take k)).length ≤ (catL es).length := by
 conv => rhs; rw [← List.take_append_drop k es]
 unfold catL
 rw [List.flatMap_append, List.length_append]
 omega
end Go.Mine
namespace Go.Proofs.YtkfdafeonhnloaaGreatDoor
open Go.RowKit Go.Shelf Go.Mine Go.Mine.C
attribute [local go_sem] Oper.semAt_some
theorem zeros_len (n : Nat) : (Builtin.zeroCells #[.int .i64 0] n).size = n := by
 simp [Builtin.zeroCells]
set_option maxRecDepth 100000 in
set_option maxHeartbeats 2000000 in
theorem grow87_nil (n : Nat) (w : World) (h0 : 0 < n) (hn : n ≤ 1000000) : Calls Tryz.prog 87 #[.slice none 0 0, .int .i64 n] w fun e w' => ∃ v, e = .returned v ∧ OwnL ic 1 3 w' w.heap.size v ([] : List Int) ∧ Below w.heap.size w w' := by
 obtain ⟨i0, hi, hz0, hz1, hz2⟩ := info_parts Tryz_infoA3
 have HI := hide hi
 clear hi
 have g1 : decide ((n : Int) < 0) = false := decide_eq_false (by omega)
 have g2 : decide ((0 : Int) < n) = true := decide_eq_true (by omega)
 have HR : Hid (∃ v' w', (Builtin.append_ #[31, 3] 31 #[.slice none 0 0, .int .i64 n]).run Tryz.prog w = .ok v' w' ∧ ∃ g cap, v' = .slice (some ⟨g, 0, none⟩) n cap ∧ OwnL ic 1 3 w' w.heap.size (.slice (some ⟨g, 0, none⟩) 0 cap) ([] : List Int) ∧ Below w.heap.size w w' ∧ n ≤ cap ∧ cap ≤ maxLen) := hide (by
  have hr := Go.Lib.run_append_grow_zeros (P := Tryz.prog) w 31 3 31 3 i0 (.int .i64 0) .i64 .i64 Tryz.underlying31 Tryz.underlying3 HI.out hz0 none 0 0 [] (by simp [run_firstCells_none]) n h0 (by omega) (by omega) (by omega) (by rw [hz2]; omega) (growslice_fits (by omega) (by rw [hz2]; omega))
  simp only [Nat.zero_add] at hr
  refine ⟨_, _, hr, _, _, rfl, ?_, kalloc (Below.refl _ _).drew _, ?_, ?_⟩
  ·refine ⟨⟨by simp, .inr ⟨_, _, _, rfl, Nat.le_refl _, heap_new w.drew _, Nat.zero_le _, ?_, ?_, by simp⟩⟩, by simp⟩
   ·exact grownCap_le_maxLen w _ _ _ (by unfold maxLen; omega)
   ·have hge := grownCap_ge w n 0 3
    have hc : (Value.int .i64 0).cells = #[.int .i64 0] := rfl
    rw [hc]
    simp only [Array.size_append, zeros_len, List.size_toArray, List.length_nil]
    omega
  ·have hge := grownCap_ge w n 0 3; omega
  ·exact grownCap_le_maxLen w _ _ _ (by unfold maxLen; omega))
 go_enter Tryz.func87, Tryz.ntmps87
 go_wp2_with (at_builtin; refine wpList_append2 rfl (.tmp 20) (.tmp 21) 31 3 rfl rfl rfl HR.out ?_)
 rintro v w' g cap rfl ho hb hc1 hc2
 unfold maxLen at hc2
 have HO := hide ho
 clear ho HR
 go_wp2
 go_ret
 exact ⟨_, rfl, HO.out, hb⟩
set_option maxRecDepth 100000 in
set_option maxHeartbeats 4000000 in
theorem concat53 (A : Option Addr) (c : Nat) (es : List Hd) (w : World) (hE : Sl hc 1 w A c es) (hS : ∀ e ∈ es, Sl ic 1 w e.1 e.2.1 e.2.2) (h0 : 0 < (catL es).length) (ht : (catL es).length ≤ 1000000) :
  Calls Tryz.prog 53 #[.slice A es.length c] w fun e w' => ∃ v, e = .returned v ∧ OwnL ic 1 3 w' w.heap.size v (catL es) ∧ Below w.heap.size w w' := by
 obtain ⟨i0, hi, hz0, hz1, hz2⟩ := info_parts Tryz_infoA3
 have HI := hide hi
 clear hi
 have HE := hide hE
 have HS := hide hS
 have hle := hE.le
 have hmx := hE.max
 have KG := hide (grow87_nil (catL es).length w h0 ht)
 have HCT := hide (catL_take es)
 have HCS := hide (fun k x => @catL_snoc es k x)
 have HCA := hide (show catL (es.take es.length) = catL es by rw [List.take_length])
 have HC0 := hide (show catL (es.take 0) = [] from rfl)
 have HTT := hide ht
 clear hE hS h0 ht
 go_enter Tryz.func53, Tryz.ntmps53
 go_wp2
 go_loopw [3, 11] (fun sv iv wr => ∃ k : Nat, k ≤ es.length ∧ iv = .int .i64 k ∧ Hid (sv = .int .i64 ((catL (es.take k)).length : Nat)) ∧ w = wr) (fun _ iv _ => es.length - (Go.Mine.nI iv).toNat)
 case atStart => exact ⟨0, Nat.zero_le _, rfl, hide rfl, rfl⟩
 case round =>
  obtain ⟨k, hk, rfl, HSV, rfl⟩ := hrel
  by_cases hlt : k < es.length
  ·obtain ⟨x, b, off, hx, rfl, hbw, c0⟩ := hd_at HE.out hlt
   have hsv := HSV.out
   have hcs := congrArg List.length (HCS.out k x hx)
   rw [List.length_append] at hcs
   have hct := HCT.out (k + 1)
   have htt := HTT.out
   generalize hs0 : (catL (es.take k)).length = s0 at *
   generalize hn0 : x.2.2.length = n0 at *
   generalize hs1 : (catL (es.take (k + 1))).length = s1 at *
   have HS1 := hide hs1
   subst hsv
   have e1 : (s0 : Int) + (n0 : Int) = (s1 : Nat) := by omega
   have g2 : decide (((s1 : Nat) : Int) < 0) = false := decide_eq_false (by omega)
   have hs1b : s1 ≤ 1000000 := by omega
   have hn1b : n0 ≤ 1000000 := by omega
   clear hx hs0 hn0 hs1 hcs hct htt HSV
   go_wp2
   go_roundw
   case rel => exact ⟨k + 1, by omega, by go_num, hide (by rw [HS1.out]), trivial⟩
   case measure => simp [Go.Mine.nI]; omega
  ·obtain rfl : k = es.length := by omega
   have hsv := HSV.out
   rw [HCA.out] at hsv
   generalize hT : (catL es).length = T at *
   subst hsv
   have HTQ := hide hT
   clear hT HSV
   go_wp2_with fail
   refine KG.out.mono ?_
   rintro e w1 ⟨v1, rfl, ho1, hb1⟩
   have HO1 := hide ho1
   have HB1 := hide hb1
   clear ho1 hb1 KG
   go_wp2
   go_loopw [6, 27] (fun v iv wr => ∃ k : Nat, k ≤ es.length ∧ iv = .int .i64 k ∧ OwnL ic 1 3 wr w.heap.size v (catL (es.take k)) ∧ Below w.heap.size w wr) (fun _ iv _ => es.length - (Go.Mine.nI iv).toNat)
   case atStart => exact ⟨0, Nat.zero_le _, rfl, by rw [HC0.out]; exact HO1.out, HB1.out⟩
   case round =>
    clear HO1 HB1
    obtain ⟨k, hk, rfl, hO, hb⟩ := hrel
    have hN := hb.size
    by_cases hlt : k < es.length
    ·obtain ⟨x, b, off, hx, rfl, hbw, c0⟩ := hd_at (HE.out.bel hb) hlt
     have HX := hide ((HS.out x (List.mem_of_getElem? hx)).bel hb)
     have HCK := hide (HCS.out k x hx)
     have hcl : (catL (es.take k)).length + x.2.2.length ≤ 1000000 := by
      have h1 := congrArg List.length HCK.out
      rw [List.length_append] at h1
      have h2 := HCT.out (k + 1)
      have h3 := HTT.out
      omega
     have HCL := hide hcl
     have HO := hide hO
     have HB := hide hb
     clear hx hO hb hcl
     go_wp2_with (at_builtin; refine wpList_append rfl (.tmp 31) (.tmp 32) 31 rfl rfl rfl (run_extend (f := ic) (base := w.heap.size) (l1 := catL (es.take k)) (l2 := x.2.2) Tryz.underlying31 HI.out hz0 hz1 hz2 rfl (by decide) HO.out HX.out (ones141 _) ?_ ?_ ?_) ?_)
     ·have := HCL.out; unfold maxLen; omega
     ·have := HCL.out; omega
     ·exact hN
     ·intro v9 w9 hO9 hg9 hat9
      have H9 := hide hO9
      have HB9 := hide (Below.grown HB.out hg9 (by omega) (fun g hg => (HO.out.blk hg).1))
      clear hO9 hg9 hat9
      go_wp2
      go_roundw
      case rel => exact ⟨k + 1, by omega, by go_num, by rw [HCK.out]; exact H9.out, HB9.out⟩
      case measure => simp [Go.Mine.nI]; omega
    ·obtain rfl : k = es.length := by omega
     rw [HCA.out] at hO
     have HO := hide hO
     have HB := hide hb
     obtain ⟨A2, c2, rfl, -⟩ := hO.sl
     clear hO hb
     go_wp2
     go_ret
     exact ⟨_, rfl, HO.out, HB.out⟩
end Go.Proofs.YtkfdafeonhnloaaGreatDoor
