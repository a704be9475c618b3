/-
  tags: the iterators of the entries of a word, of an unknown word.
  tags: the iterator of an unknown word.
-/
import Derived.Test.YtkfdafeonhnloaaGreatDoorB6
import Derived.Test.YtkfdafeonhnloaaGreatDoorGM1
import Derived.Test.YtkfdafeonhnloaaGreatDoorGM2
namespace Go.Mine.C
open Go.RowKit Go.Mine
def entItem (i : Nat) (x : EntH) : ItemH := ⟨x.catNo, i, (i : Int) + 1, x.cost, x.gA, x.gC, x.gives, -1⟩
def entI (u : Str) (i : Nat) (l : List EntH) : List ItemH := (l.filter fun x => x.text.toList == u.toList).map (entItem i)
theorem entI_snoc (u : Str) (i : Nat) (l : List EntH) (x : EntH) : entI u i (l ++ [x]) = if (x.text.toList == u.toList) = true then entI u i l ++ [entItem i x] else entI u i l := by
 unfold entI
 rw [List.filter_append, List.map_append, List.filter_cons, List.filter_nil]
 split
 ·rfl
 ·simp
theorem entI_get (u : Str) (i : Nat) {l : List EntH} {k : Nat} {x : EntH} (hx : l[k]? = some x) (ht : (x.text.toList == u.toList) = true) : (entI u i l)[(entI u i (l.take k)).length]? = some (entItem i x) := by
 have e : l = l.take k ++ x :: l.drop (k + 1) := by rw [← drop_of_get hx, List.take_append_drop]
 have e2 : entI u i l = entI u i (l.take k) ++ entItem i x :: entI u i (l.drop (k + 1)) := by
  conv => lhs; rw [e]
  unfold entI
  rw [List.filter_append, List.map_append, List.filter_cons, if_pos ht, List.map_cons]
 rw [e2, List.getElem?_append_right (Nat.le_refl _), Nat.sub_self]
 rfl
end Go.Mine.C
namespace Go.Proofs.YtkfdafeonhnloaaGreatDoor
open Go.RowKit Go.Shelf Go.Mine Go.Mine.C
attribute [local go_sem] Oper.semAt_some
set_option maxRecDepth 100000 in
set_option maxHeartbeats 8000000 in
theorem entries79 (wI : World) (g : GramH) (wA : Option Addr) (wC : Nat) (words : List ByteArray) (tm : SMap) (mb pi pt i : Nat) (u : ByteArray) (w0 : World) (R : Nat → Prop) (hC : TagC wI g wA wC words tm) (hT : TagIn wI tm mb w0)
  (hpi : Blk w0 pi 3 #[.int .i64 i]) (hpt : Blk w0 pt 83 (tagCs g mb wA wC words.length)) (hRp : R pi ∧ R pt ∧ R mb) (hRl : ∀ b, b < wI.heap.size → R b) (hu : words[i]? = some u) (hw : words.length ≤ 16) (hen : g.entries.length ≤ 512) :
  IterG Tryz.prog 79 #[.pointer (some ⟨pt, 0, none⟩), .pointer (some ⟨pi, 0, none⟩)] (entI u i g.entries).length (Gives itemV (fun k h => (entI u i g.entries)[k]? = some h) (okItem wI.heap.size)) none (fun _ => False) R w0 := by
 intro n lp J Jx W hwW hR hJ hJx hY h0
 have hRb : ∀ b, R b → W.heap[b]? = w0.heap[b]? := fun b hb => (hR b (.inr hb)).2
 have HRL := hide (fun b (hb : R b) => (hR b (.inr hb)).1)
 have HWW := hide hwW
 have HT0 := hide hT
 have HPI0 := hide hpi
 have HPT0 := hide hpt
 have HRP := hide hRp
 have HRI := hide hRl
 have HY := hide @hY
 have HJ := hide @hJ
 have HC := hide hC
 have H0 := hide h0
 have HU := hide hu
 have HRB := hide hRb
 have hui := lt_of_get hu
 clear hY hJ hC h0 hR hT hpi hpt hRp hRl hRb hJx hu hwW
 -- what stands in a world where R's blocks are as they were
 have HV : Hid (∀ Wr : World, w0.heap.size ≤ Wr.heap.size → (∀ b, R b → Wr.heap[b]? = w0.heap[b]?) → TagIn wI tm mb Wr ∧ Blk Wr pi 3 #[.int .i64 i] ∧ Blk Wr pt 83 (tagCs g mb wA wC words.length)) := hide (fun Wr hz hr =>
  ⟨HT0.out.same hz (fun b hb => hr b (HRI.out b hb)) (hr mb HRP.out.2.2), ⟨Nat.lt_of_lt_of_le HPI0.out.lt hz, (hr pi HRP.out.1).trans HPI0.out.at_⟩, ⟨Nat.lt_of_lt_of_le HPT0.out.lt hz, (hr pt HRP.out.2.1).trans HPT0.out.at_⟩⟩)
 obtain ⟨hT1, hp1, hp2⟩ := HV.out W HWW.out HRB.out
 have y4 := hp2.cell (v := .slice g.eA g.entries.length g.eC) 4 rfl
 have yl := hp2.lt
 have hel := HC.out.gram.entries.le
 have hem := HC.out.gram.entries.max
 clear hT1 hp1 hp2
 refine callsIn_of_wp Tryz.func79 rfl trivial ?_ rfl
 simp only [Tryz.ntmps79]
 simp only [List.size_toArray, List.length_cons, List.length_nil, Nat.reduceAdd, Nat.reduceSub, Array.replicate_succ, Array.replicate_zero, List.push_toArray, List.append_toArray, List.nil_append, List.cons_append]
 gi_wp2_with fail
 clear y4 yl
 gi_loopw [10] (fun c wr => ∃ k : Nat, k ≤ g.entries.length ∧ c = .int .i64 k ∧ Hid (J (entI u i (g.entries.take k)).length (fun _ => False) wr) ∧ Hid (W.heap.size ≤ wr.heap.size) ∧ Hid (∀ b, R b → wr.heap[b]? = w0.heap[b]?)) (fun c _ => g.entries.length - (nI c).toNat)
 case atStart => exact ⟨0, Nat.zero_le _, rfl, H0, Nat.le_refl _, HRB⟩
 case round =>
  clear H0 HRB
  obtain ⟨k, hk, rfl, HJk, HZ, HRB⟩ := hrel
  by_cases hlt : k < g.entries.length
  ·obtain ⟨wo, hwo⟩ : ∃ x, x = wr := ⟨_, rfl⟩
   subst hwo
   obtain ⟨hT1, hp1, hp2⟩ := HV.out wo (Nat.le_trans HWW.out HZ.out) HRB.out
   obtain ⟨x, b, off, hx, hdr, hA, hbw, c0, c1, c2, c3, c4⟩ := ent_at (hT1.sl HC.out.gram.entries) hlt
   have hmem := List.mem_of_getElem? hx
   obtain ⟨wu, wb, woff, hwu, _, hwA, hwb, d0⟩ := Sl.sc_at (hT1.sl HC.out.wsl) hui
   obtain rfl : wu = u := by have := HU.out; rw [hwu] at this; exact Option.some.inj this
   have z7 := hp2.cell (v := .slice wA words.length wC) 7 rfl
   have zl := hp2.lt
   have x0 := hp1.cell (v := .int .i64 i) 0 rfl
   have xl := hp1.lt
   have hwl := HC.out.wsl.le
   have hwm := HC.out.wsl.max
   have HKB := hide (kalloc (Below.refl wo.heap.size wo) (.cells #[.string x.text, .string x.cat, .int .i64 x.catNo, .slice x.gA x.gives.length x.gC, .int .i64 x.cost] 107)).drew
   have HTD := hide (hT1.bel HKB.out)
   have HGE := hide (HC.out.gram.entry x hmem)
   rw [hA]
   subst hwA
   have hxs := entI_snoc wu i (g.entries.take k) x
   rw [← take_of_get hx] at hxs
   clear hT1 hp1 hp2 hwu hdr
   have HJ2 := hide (HJ.out _ _ _ _ _ HJk.out (XStep.of_below (O' := fun _ => False) HKB.out fun b hb => hb.elim))
   have HZ2 := hide (Nat.le_trans HZ.out HKB.out.size)
   have HR2 := hide (fun b (hb : R b) => (HKB.out.block b (Nat.lt_of_lt_of_le (HRL.out b hb) (Nat.le_trans HWW.out HZ.out))).trans (HRB.out b hb))
   cases ht : (x.text.toList == wu.toList)
   ·rw [ht, if_neg (by decide)] at hxs
    have HXS := hide hxs
    clear hxs hx hmem HGE HTD
    gi_wp2_with fail
    refine wpIn_region_still_lit (ro := none) (by kernel_rfl) (by kernel_rfl) ?_
    repeat (first | ((with_reducible refine wpStill_step (fun K hK => ?_)); go_simp; (try go_bits); (with_reducible refine hK _ ?_); clear hK K) | ((with_reducible refine wpStill_step (fun K hK => ?_)); go_simp; rw [if_neg (by simp [undef])]; (with_reducible refine hK _ ?_); clear hK K))
    (with_reducible refine wpStill_nil ?_)
    gi_wp2
    go_roundw
    case rel => exact ⟨k + 1, by omega, by go_num, by rw [HXS.out]; exact HJ2, HZ2, HR2⟩
    case measure => simp [nI]; omega
   ·rw [ht, if_pos rfl] at hxs
    have hgt := entI_get wu i hx ht
    have HXS := hide hxs
    have HGT := hide hgt
    have HIO := hide (show okItem wI.heap.size (fun _ => False) _ (entItem i x) from itemLow HTD.out HGE.out)
    obtain ⟨fn, tmps, assign, body, hyy, hRR⟩ := HY.out _ #[itemV (entItem i x)] (fun _ => False) _ (lt_of_get hgt) ⟨_, rfl, hgt, HIO.out⟩ HJ2.out (fun b hb => hb.elim) HZ2.out
    have hlt1 := hide (fun b (hb : R b) => Nat.lt_of_lt_of_le (HRL.out b hb) (Nat.le_trans HWW.out (Nat.le_trans HZ.out HKB.out.size)))
    (try simp only [itemV, entItem] at hRR hyy)
    replace hRR := hide hRR
    clear hxs hx hmem hgt HIO
    gi_wp2_with fail
    refine wpIn_region_still_tail (ro := none) 20 (by kernel_rfl) (by kernel_rfl) ?_
    simp only [List.take_succ_cons, List.take_zero, List.drop_succ_cons, List.drop_zero]
    repeat ((with_reducible refine wpStill_step (fun K hK => ?_)); go_simp; (try go_bits); (with_reducible refine hK _ ?_); clear hK K)
    (with_reducible refine wpStill_nil ?_)
    gi_wp2_with fail
    refine hRR.out.mono ?_
    rintro e W' ⟨hK, (⟨rfl, hj'⟩ | ⟨rfl, hjx⟩)⟩
    ·have HZ3 := hide (Nat.le_trans HZ2.out hK.size)
     have HR3 := hide (fun b (hb : R b) => (hK.keep b (hlt1.out b hb) (.inr hb)).trans (HR2.out b hb))
     have HJ3 := hide hj'
     clear hK hj'
     gi_wp2
     go_roundw
     case rel => exact ⟨k + 1, by omega, by go_num, by rw [HXS.out, List.length_append]; exact HJ3, HZ3, HR3⟩
     case measure => simp [nI]; omega
    ·have HZ3 := hide (Nat.le_trans HZ2.out hK.size)
     have HJ3 := hide hjx
     clear hK hjx
     gi_wp2
     refine bodyPost_ret (results_none rfl _ _ _) rfl ?_
     exact ⟨fun _ => False, fun b hb => hb.elim, HZ3.out, .inr ⟨⟨_, rfl⟩, HJ3.out⟩⟩
  ·obtain rfl : k = g.entries.length := by omega
   rw [List.take_length] at HJk
   gi_wp2
   refine bodyPost_end (results_none rfl _ _ _) rfl ?_
   exact ⟨fun _ => False, fun b hb => hb.elim, HZ.out, .inl ⟨⟨_, rfl⟩, HJk.out⟩⟩
end Go.Proofs.YtkfdafeonhnloaaGreatDoor
namespace Go.Mine.C
open Go.RowKit Go.Mine
def unkM (u : Str) (i : Nat) (k : Nat) : ItemM := ⟨k, i, (i : Int) + 1, 100, [u], -1⟩
def Imp (l : Array Bool) (j : Nat) (v c : Value) : Prop := l.getD j false = true → v = c
theorem Imp.ne {l : Array Bool} {i j : Nat} {v c : Value} (h : Imp l j v c) (hij : i ≠ j) : Imp (l.setIfInBounds i true) j v c := fun h' => h (by rw [getD_setF, if_neg (fun h => hij h.1)] at h'; exact h')
theorem Imp.nil {N j : Nat} {v c : Value} : Imp (Array.replicate N false) j v c := fun h => by
 simp only [Array.getD_eq_getD_getElem?, Array.getElem?_replicate] at h
 split at h <;> simp at h
def Ph (l : Array Bool) (W0 WA : World) (Post : Bool → World → Prop) (v12 v13 : Value) (w : World) : Prop :=
 (l.getD 12 false = false ∧ ((l.getD 10 false = false ∧ w = W0) ∨ (l.getD 10 false = true ∧ w = WA))) ∨ (l.getD 12 false = true ∧ ∃ bb : Bool, v12 = .bool bb ∧ Post bb w ∧ (l.getD 13 false = true → v13 = .bool (!bb)))
def UnkI (x0 x1 x2 x3 x4 x5 x6 x7 x8 x9 x10 x11 x26 c0 c1 c2 c3 c4 c5 c6 c7 c8 c9 c10 c11 : Value) (W0 WA : World) (Post : Bool → World → Prop) (l : Array Bool) (a : Act) (w : World) : Prop :=
 ∃ v0 v1 v2 v3 v4 v5 v6 v7 v8 v9 v10 v11 v12 v13 : Value, a = { tmps := #[x0, x1, x2, x3, x4, x5, x6, x7, x8, x9, x10, x11, v0, v1, v2, v3, v4, v5, v6, v7, v8, v9, v10, v11, v12, v13, x26], defers := [] } ∧ Imp l 0 v0 c0 ∧ Imp l 1 v1 c1 ∧ Imp l 2 v2 c2 ∧ Imp l 3 v3 c3 ∧ Imp l 4 v4 c4 ∧ Imp l 5 v5 c5 ∧ Imp l 6 v6 c6 ∧ Imp l 7 v7 c7 ∧ Imp l 8 v8 c8 ∧ Imp l 9 v9 c9 ∧ Imp l 10 v10 c10 ∧ Imp l 11 v11 c11 ∧ Ph l W0 WA Post v12 v13 w
theorem getD_conf {l : Array Bool} {i : Nat} (h : l.getD i true = false) (h' : l.getD i false = true) : False := by
 simp only [Array.getD_eq_getD_getElem?] at h h'
 cases hh : l[i]? with
 | none => rw [hh] at h; simp at h
 | some b => rw [hh] at h h'; simp at h h'; rw [h] at h'; cases h'
theorem Ph.ne {l : Array Bool} {i : Nat} {W0 WA : World} {Post : Bool → World → Prop} {v12 v13 : Value} {w : World} (h12 : l.getD 12 false = false) (hw : (l.getD 10 false = false ∧ w = W0) ∨ (l.getD 10 false = true ∧ w = WA)) (h1 : i ≠ 12) (h2 : i ≠ 10) : Ph (l.setIfInBounds i true) W0 WA Post v12 v13 w := by
 refine .inl ⟨by rw [getD_setF, if_neg (fun h => h1 h.1)]; exact h12, ?_⟩
 rw [getD_setF, if_neg (fun h => h2 h.1)]
 exact hw
end Go.Mine.C
namespace Go.Proofs.YtkfdafeonhnloaaGreatDoor
open Go.RowKit Go.Shelf Go.Mine Go.Mine.C
attribute [local go_sem] Oper.semAt_some
set_option maxRecDepth 100000 in
set_option maxHeartbeats 8000000 in
theorem unknowns80 (wI : World) (g : GramH) (wA : Option Addr) (wC : Nat) (words : List ByteArray) (tm : SMap) (mb pi pt i : Nat) (u : ByteArray) (w0 : World) (R : Nat → Prop) (hC : TagC wI g wA wC words tm) (hT : TagIn wI tm mb w0)
  (hpi : Blk w0 pi 3 #[.int .i64 i]) (hpt : Blk w0 pt 83 (tagCs g mb wA wC words.length)) (hRp : R pi ∧ R pt ∧ R mb) (hRl : ∀ b, b < wI.heap.size → R b) (hu : words[i]? = some u) (hw : words.length ≤ 16) (hen : g.cats.length ≤ 32) :
  IterG Tryz.prog 80 #[.pointer (some ⟨pt, 0, none⟩), .pointer (some ⟨pi, 0, none⟩)] g.cats.length (Gives itemV (fun k h => h.m = unkM u i k) (okItem wI.heap.size)) none (fun _ => False) R w0 := by
 intro n lp J Jx W hwW hR hJ hJx hY h0
 have hRb : ∀ b, R b → W.heap[b]? = w0.heap[b]? := fun b hb => (hR b (.inr hb)).2
 have HRL := hide (fun b (hb : R b) => (hR b (.inr hb)).1)
 have HWW := hide hwW
 have HT0 := hide hT
 have HPI0 := hide hpi
 have HPT0 := hide hpt
 have HRP := hide hRp
 have HRI := hide hRl
 have HY := hide @hY
 have HJ := hide @hJ
 have HC := hide hC
 have H0 := hide h0
 have HU := hide hu
 have HRB := hide hRb
 have hui := lt_of_get hu
 clear hY hJ hC h0 hR hT hpi hpt hRp hRl hRb hJx hu hwW
 -- what stands in a world where R's blocks are as they were
 have HV : Hid (∀ Wr : World, w0.heap.size ≤ Wr.heap.size → (∀ b, R b → Wr.heap[b]? = w0.heap[b]?) → TagIn wI tm mb Wr ∧ Blk Wr pi 3 #[.int .i64 i] ∧ Blk Wr pt 83 (tagCs g mb wA wC words.length)) := hide (fun Wr hz hr =>
  ⟨HT0.out.same hz (fun b hb => hr b (HRI.out b hb)) (hr mb HRP.out.2.2), ⟨Nat.lt_of_lt_of_le HPI0.out.lt hz, (hr pi HRP.out.1).trans HPI0.out.at_⟩, ⟨Nat.lt_of_lt_of_le HPT0.out.lt hz, (hr pt HRP.out.2.1).trans HPT0.out.at_⟩⟩)
 obtain ⟨hT1, hp1, hp2⟩ := HV.out W HWW.out HRB.out
 have y4 := hp2.cell (v := .slice g.cA g.cats.length g.cC) 1 rfl
 have yl := hp2.lt
 have hel := HC.out.gram.cats.le
 have hem := HC.out.gram.cats.max
 clear hT1 hp1 hp2
 refine callsIn_of_wp Tryz.func80 rfl trivial ?_ rfl
 simp only [Tryz.ntmps80]
 simp only [List.size_toArray, List.length_cons, List.length_nil, Nat.reduceAdd, Nat.reduceSub, Array.replicate_succ, Array.replicate_zero, List.push_toArray, List.append_toArray, List.nil_append, List.cons_append]
 gi_wp2_with fail
 clear y4 yl
 gi_loopw [9] (fun c wr => ∃ k : Nat, k ≤ g.cats.length ∧ c = .int .i64 k ∧ Hid (J k (fun _ => False) wr) ∧ Hid (W.heap.size ≤ wr.heap.size) ∧ Hid (∀ b, R b → wr.heap[b]? = w0.heap[b]?)) (fun c _ => g.cats.length - (nI c).toNat)
 case atStart => exact ⟨0, Nat.zero_le _, rfl, H0, Nat.le_refl _, HRB⟩
 case round =>
  clear H0 HRB
  obtain ⟨k, hk, rfl, HJk, HZ, HRB⟩ := hrel
  by_cases hlt : k < g.cats.length
  ·obtain ⟨wo, hwo⟩ : ∃ x, x = wr := ⟨_, rfl⟩
   subst hwo
   obtain ⟨hT1, hp1, hp2⟩ := HV.out wo (Nat.le_trans HWW.out HZ.out) HRB.out
   obtain ⟨wu, wb, woff, hwu, _, hwA, hwb, d0⟩ := Sl.sc_at (hT1.sl HC.out.wsl) hui
   obtain rfl : wu = u := by have := HU.out; rw [hwu] at this; exact Option.some.inj this
   have z7 := hp2.cell (v := .slice wA words.length wC) 7 rfl
   have zl := hp2.lt
   have x0 := hp1.cell (v := .int .i64 i) 0 rfl
   have xl := hp1.lt
   have hwl := HC.out.wsl.le
   have hwm := HC.out.wsl.max
   have HKB := hide (kalloc (Below.refl wo.heap.size wo) (.cells #[.string wu] 9)).drew
   have BN := (Blk.new wo #[.string wu] 9).drew
   have hwr : IntKind.i64.wrap ((i : Int) + 1) = (i : Int) + 1 := by rw [IntKind.wrap_i64]; omega
   subst hwA
   have HJ2 := hide (HJ.out _ _ _ _ _ HJk.out (XStep.of_below (O' := fun _ => False) HKB.out fun b hb => hb.elim))
   have HZ2 := hide (Nat.le_trans HZ.out HKB.out.size)
   have HR2 := hide (fun b (hb : R b) => (HKB.out.block b (Nat.lt_of_lt_of_le (HRL.out b hb) (Nat.le_trans HWW.out HZ.out))).trans (HRB.out b hb))
   clear hT1 hp1 hp2 hwu
   have HIO := hide (show okItem wI.heap.size (fun _ => False) _ ⟨k, i, (i : Int) + 1, 100, some ⟨wo.heap.size, 0, none⟩, 1, [wu], -1⟩ from
    ⟨⟨Sl.one (f := sc) (sz := 1) (c := 1) (x := wu) BN rfl rfl (Nat.le_refl 1) (by omega), fun _ _ _ h => h⟩, fun p hp _ => .inr (by
     obtain rfl : (⟨wo.heap.size, 0, none⟩ : Addr) = p := Option.some.inj hp
     exact ⟨_, _, BN.at_⟩)⟩)
   obtain ⟨fn, tmps, assign, body, hyy, hRR⟩ := HY.out k #[itemV ⟨k, i, (i : Int) + 1, 100, some ⟨wo.heap.size, 0, none⟩, 1, [wu], -1⟩] (fun _ => False) _ hlt ⟨_, rfl, rfl, HIO.out⟩ HJ2.out (fun b hb => hb.elim) HZ2.out
   have hlt1 := hide (fun b (hb : R b) => Nat.lt_of_lt_of_le (HRL.out b hb) (Nat.le_trans HWW.out (Nat.le_trans HZ.out HKB.out.size)))
   (try simp only [itemV, List.length_cons, List.length_nil] at hRR hyy)
   have hRR2 := hide (hRR.mono (R' := fun e W' => ∃ bb : Bool, e = .returned (.bool bb) ∧ Kept R (wo.alloc (.cells #[.string wu] 9)).drew W' ∧ (bb = true → J (k + 1) (fun _ => False) W') ∧ (bb = false → Jx () (fun _ => False) W')) (by
    rintro e W' ⟨hK, (⟨rfl, hj'⟩ | ⟨rfl, hjx⟩)⟩
    ·exact ⟨true, rfl, hK.mono (fun b h => .inr h), fun _ => hj', fun h => by cases h⟩
    ·exact ⟨false, rfl, hK.mono (fun b h => .inr h), (fun h => by cases h), fun _ => hjx⟩))
   clear HIO BN hRR
   gi_wp2_with fail
   refine wpIn_region_inv' (I := UnkI (.func (.yield lp) #[] #[]) (.pointer (some ⟨pt, 0, none⟩)) (.pointer (some ⟨pi, 0, none⟩)) undef (.int .i64 k) (.pointer (some ⟨pt, 0, none⟩)) (.pointer (some ⟨pt, 1, none⟩)) (.slice g.cA g.cats.length g.cC) (.int .i64 g.cats.length) (.int .i64 k) (.bool true) (.int .i64 k) u26 (.func (.yield lp) #[] #[]) (.int .i64 k) (.int .i64 i) (.int .i64 i) (.int .i64 ((i : Int) + 1)) (.pointer (some ⟨pt, 7, none⟩)) (.slice (some ⟨wb, woff, none⟩) words.length wC) (.int .i64 i) (.pointer (some ⟨wb, woff + i, none⟩)) (.string wu) (.slice (some ⟨wo.heap.size, 0, none⟩) 1 1)
    (.agg #[.int .i64 k, .int .i64 i, .int .i64 ((i : Int) + 1), .int .i64 100, .slice (some ⟨wo.heap.size, 0, none⟩) 1 1, .int .i64 (-1)]) wo.drew (wo.alloc (.cells #[.string wu] 9)).drew
    (fun bb W' => Kept R (wo.alloc (.cells #[.string wu] 9)).drew W' ∧ (bb = true → J (k + 1) (fun _ => False) W') ∧ (bb = false → Jx () (fun _ => False) W'))) (by kernel_rfl) ?h0 ?hend ?hstep
   case h0 => exact ⟨_, _, _, _, _, _, _, _, _, _, _, _, _, _, rfl, Imp.nil, Imp.nil, Imp.nil, Imp.nil, Imp.nil, Imp.nil, Imp.nil, Imp.nil, Imp.nil, Imp.nil, Imp.nil, Imp.nil, .inl ⟨rfl, .inl ⟨rfl, rfl⟩⟩⟩
   case hend =>
    rintro l a w ⟨v0, v1, v2, v3, v4, v5, v6, v7, v8, v9, v10, v11, v12, v13, rfl, h0, h1, h2, h3, h4, h5, h6, h7, h8, h9, h10, h11, hph⟩ hz hc hr
    have hal := all_listed hz (by kernel_rfl) hr
    obtain ⟨h12f, _⟩ | ⟨h12, bb, rfl, ⟨hK, hj1, hj2⟩, h13⟩ := hph
    ·have := hal 12 (by simp)
     rw [h12f] at this; cases this
    ·obtain rfl := h13 (hal 13 (by simp))
     have HZ3 := hide (Nat.le_trans HZ2.out hK.size)
     have HR3 := hide (fun b (hb : R b) => (hK.keep b (hlt1.out b hb) hb).trans (HR2.out b hb))
     cases bb
     ·have HJ3 := hide (hj2 rfl)
      clear hK hj1 hj2 hal hr hc hz h0 h1 h2 h3 h4 h5 h6 h7 h8 h9 h10 h11 h12 h13 hyy hRR2
      gi_wp2
      refine bodyPost_ret (results_none rfl _ _ _) rfl ?_
      exact ⟨fun _ => False, fun b hb => hb.elim, HZ3.out, .inr ⟨⟨_, rfl⟩, HJ3.out⟩⟩
     ·have HJ3 := hide (hj1 rfl)
      clear hK hj1 hj2 hal hr hc hz h0 h1 h2 h3 h4 h5 h6 h7 h8 h9 h10 h11 h12 h13 hyy hRR2
      gi_wp2
      go_roundw
      case rel => exact ⟨k + 1, by omega, by go_num, HJ3, HZ3, HR3⟩
      case measure => simp [nI]; omega
   case hstep =>
    rintro l a w i' ⟨v0, v1, v2, v3, v4, v5, v6, v7, v8, v9, v10, v11, v12, v13, rfl, h0, h1, h2, h3, h4, h5, h6, h7, h8, h9, h10, h11, hph⟩ hz hc hi
    obtain ⟨hl0, o, ho, hd⟩ := mem_ready.1 hi
    have hi14 : i' < 14 := (Array.getElem?_eq_some_iff.1 ho).1
    have hall : l.getD 12 false = true → ∀ j, j ≤ 11 → l.getD j false = true := fun h => by
     have a11 := hc 12 _ h rfl ⟨11, .data⟩ (by simp) rfl
     have a0 := hc 12 _ h rfl ⟨0, .data⟩ (by simp) rfl
     have a1 := hc 11 _ a11 rfl ⟨1, .data⟩ (by simp) rfl
     have a2 := hc 11 _ a11 rfl ⟨2, .data⟩ (by simp) rfl
     have a4 := hc 11 _ a11 rfl ⟨4, .data⟩ (by simp) rfl
     have a10 := hc 11 _ a11 rfl ⟨10, .data⟩ (by simp) rfl
     have a3 := hc 4 _ a4 rfl ⟨3, .data⟩ (by simp) rfl
     have a9 := hc 10 _ a10 rfl ⟨9, .data⟩ (by simp) rfl
     have a8 := hc 9 _ a9 rfl ⟨8, .data⟩ (by simp) rfl
     have a6 := hc 8 _ a8 rfl ⟨6, .data⟩ (by simp) rfl
     have a7 := hc 8 _ a8 rfl ⟨7, .data⟩ (by simp) rfl
     have a5 := hc 6 _ a6 rfl ⟨5, .data⟩ (by simp) rfl
     intro j hj
     have : j = 0 ∨ j = 1 ∨ j = 2 ∨ j = 3 ∨ j = 4 ∨ j = 5 ∨ j = 6 ∨ j = 7 ∨ j = 8 ∨ j = 9 ∨ j = 10 ∨ j = 11 := by omega
     rcases this with rfl | rfl | rfl | rfl | rfl | rfl | rfl | rfl | rfl | rfl | rfl | rfl <;> assumption
    have hcase : i' = 0 ∨ i' = 1 ∨ i' = 2 ∨ i' = 3 ∨ i' = 4 ∨ i' = 5 ∨ i' = 6 ∨ i' = 7 ∨ i' = 8 ∨ i' = 9 ∨ i' = 10 ∨ i' = 11 ∨ i' = 12 ∨ i' = 13 := by omega
    rcases hcase with rfl | rfl | rfl | rfl | rfl | rfl | rfl | rfl | rfl | rfl | rfl | rfl | rfl | rfl
    ·have ho' := Option.some.inj ho
     subst ho'
     obtain ⟨hn12, hwv⟩ | ⟨hn12, _⟩ := hph
     rotate_left
     ·exact (getD_conf hl0 (hall hn12 0 (by decide))).elim
     unfold wpOpIn
     go_simp
     exact ⟨_, _, _, _, _, _, _, _, _, _, _, _, _, _, rfl, fun _ => rfl, h1.ne (by decide), h2.ne (by decide), h3.ne (by decide), h4.ne (by decide), h5.ne (by decide), h6.ne (by decide), h7.ne (by decide), h8.ne (by decide), h9.ne (by decide), h10.ne (by decide), h11.ne (by decide), Ph.ne hn12 hwv (by decide) (by decide)⟩
    ·have ho' := Option.some.inj ho
     subst ho'
     obtain ⟨hn12, hwv⟩ | ⟨hn12, _⟩ := hph
     rotate_left
     ·exact (getD_conf hl0 (hall hn12 1 (by decide))).elim
     unfold wpOpIn
     go_simp
     exact ⟨_, _, _, _, _, _, _, _, _, _, _, _, _, _, rfl, h0.ne (by decide), fun _ => rfl, h2.ne (by decide), h3.ne (by decide), h4.ne (by decide), h5.ne (by decide), h6.ne (by decide), h7.ne (by decide), h8.ne (by decide), h9.ne (by decide), h10.ne (by decide), h11.ne (by decide), Ph.ne hn12 hwv (by decide) (by decide)⟩
    ·have ho' := Option.some.inj ho
     subst ho'
     obtain ⟨hn12, hwv⟩ | ⟨hn12, _⟩ := hph
     rotate_left
     ·exact (getD_conf hl0 (hall hn12 2 (by decide))).elim
     have hB : Below wo.heap.size wo w := by rcases hwv with ⟨_, rfl⟩ | ⟨_, rfl⟩; exact (Below.refl _ _).drew; exact HKB.out
     have m0 := (hB.cell (p := ⟨pi, 0, none⟩) xl).trans x0
     unfold wpOpIn
     go_simp
     exact ⟨_, _, _, _, _, _, _, _, _, _, _, _, _, _, rfl, h0.ne (by decide), h1.ne (by decide), fun _ => rfl, h3.ne (by decide), h4.ne (by decide), h5.ne (by decide), h6.ne (by decide), h7.ne (by decide), h8.ne (by decide), h9.ne (by decide), h10.ne (by decide), h11.ne (by decide), Ph.ne hn12 hwv (by decide) (by decide)⟩
    ·have ho' := Option.some.inj ho
     subst ho'
     obtain ⟨hn12, hwv⟩ | ⟨hn12, _⟩ := hph
     rotate_left
     ·exact (getD_conf hl0 (hall hn12 3 (by decide))).elim
     have hB : Below wo.heap.size wo w := by rcases hwv with ⟨_, rfl⟩ | ⟨_, rfl⟩; exact (Below.refl _ _).drew; exact HKB.out
     have m0 := (hB.cell (p := ⟨pi, 0, none⟩) xl).trans x0
     unfold wpOpIn
     go_simp
     exact ⟨_, _, _, _, _, _, _, _, _, _, _, _, _, _, rfl, h0.ne (by decide), h1.ne (by decide), h2.ne (by decide), fun _ => rfl, h4.ne (by decide), h5.ne (by decide), h6.ne (by decide), h7.ne (by decide), h8.ne (by decide), h9.ne (by decide), h10.ne (by decide), h11.ne (by decide), Ph.ne hn12 hwv (by decide) (by decide)⟩
    ·have ho' := Option.some.inj ho
     subst ho'
     obtain ⟨hn12, hwv⟩ | ⟨hn12, _⟩ := hph
     rotate_left
     ·exact (getD_conf hl0 (hall hn12 4 (by decide))).elim
     obtain rfl := h3 (hd ⟨3, .data⟩ (by simp) rfl)
     unfold wpOpIn
     go_simp
     exact ⟨_, _, _, _, _, _, _, _, _, _, _, _, _, _, rfl, h0.ne (by decide), h1.ne (by decide), h2.ne (by decide), h3.ne (by decide), fun _ => rfl, h5.ne (by decide), h6.ne (by decide), h7.ne (by decide), h8.ne (by decide), h9.ne (by decide), h10.ne (by decide), h11.ne (by decide), Ph.ne hn12 hwv (by decide) (by decide)⟩
    ·have ho' := Option.some.inj ho
     subst ho'
     obtain ⟨hn12, hwv⟩ | ⟨hn12, _⟩ := hph
     rotate_left
     ·exact (getD_conf hl0 (hall hn12 5 (by decide))).elim
     unfold wpOpIn
     go_simp
     exact ⟨_, _, _, _, _, _, _, _, _, _, _, _, _, _, rfl, h0.ne (by decide), h1.ne (by decide), h2.ne (by decide), h3.ne (by decide), h4.ne (by decide), fun _ => rfl, h6.ne (by decide), h7.ne (by decide), h8.ne (by decide), h9.ne (by decide), h10.ne (by decide), h11.ne (by decide), Ph.ne hn12 hwv (by decide) (by decide)⟩
    ·have ho' := Option.some.inj ho
     subst ho'
     obtain ⟨hn12, hwv⟩ | ⟨hn12, _⟩ := hph
     rotate_left
     ·exact (getD_conf hl0 (hall hn12 6 (by decide))).elim
     obtain rfl := h5 (hd ⟨5, .data⟩ (by simp) rfl)
     have hB : Below wo.heap.size wo w := by rcases hwv with ⟨_, rfl⟩ | ⟨_, rfl⟩; exact (Below.refl _ _).drew; exact HKB.out
     have m0 := (hB.cell (p := ⟨pt, 7, none⟩) zl).trans z7
     unfold wpOpIn
     go_simp
     exact ⟨_, _, _, _, _, _, _, _, _, _, _, _, _, _, rfl, h0.ne (by decide), h1.ne (by decide), h2.ne (by decide), h3.ne (by decide), h4.ne (by decide), h5.ne (by decide), fun _ => rfl, h7.ne (by decide), h8.ne (by decide), h9.ne (by decide), h10.ne (by decide), h11.ne (by decide), Ph.ne hn12 hwv (by decide) (by decide)⟩
    ·have ho' := Option.some.inj ho
     subst ho'
     obtain ⟨hn12, hwv⟩ | ⟨hn12, _⟩ := hph
     rotate_left
     ·exact (getD_conf hl0 (hall hn12 7 (by decide))).elim
     have hB : Below wo.heap.size wo w := by rcases hwv with ⟨_, rfl⟩ | ⟨_, rfl⟩; exact (Below.refl _ _).drew; exact HKB.out
     have m0 := (hB.cell (p := ⟨pi, 0, none⟩) xl).trans x0
     unfold wpOpIn
     go_simp
     exact ⟨_, _, _, _, _, _, _, _, _, _, _, _, _, _, rfl, h0.ne (by decide), h1.ne (by decide), h2.ne (by decide), h3.ne (by decide), h4.ne (by decide), h5.ne (by decide), h6.ne (by decide), fun _ => rfl, h8.ne (by decide), h9.ne (by decide), h10.ne (by decide), h11.ne (by decide), Ph.ne hn12 hwv (by decide) (by decide)⟩
    ·have ho' := Option.some.inj ho
     subst ho'
     obtain ⟨hn12, hwv⟩ | ⟨hn12, _⟩ := hph
     rotate_left
     ·exact (getD_conf hl0 (hall hn12 8 (by decide))).elim
     obtain rfl := h6 (hd ⟨6, .data⟩ (by simp) rfl)
     obtain rfl := h7 (hd ⟨7, .data⟩ (by simp) rfl)
     unfold wpOpIn
     go_simp
     exact ⟨_, _, _, _, _, _, _, _, _, _, _, _, _, _, rfl, h0.ne (by decide), h1.ne (by decide), h2.ne (by decide), h3.ne (by decide), h4.ne (by decide), h5.ne (by decide), h6.ne (by decide), h7.ne (by decide), fun _ => rfl, h9.ne (by decide), h10.ne (by decide), h11.ne (by decide), Ph.ne hn12 hwv (by decide) (by decide)⟩
    ·have ho' := Option.some.inj ho
     subst ho'
     obtain ⟨hn12, hwv⟩ | ⟨hn12, _⟩ := hph
     rotate_left
     ·exact (getD_conf hl0 (hall hn12 9 (by decide))).elim
     obtain rfl := h8 (hd ⟨8, .data⟩ (by simp) rfl)
     have hB : Below wo.heap.size wo w := by rcases hwv with ⟨_, rfl⟩ | ⟨_, rfl⟩; exact (Below.refl _ _).drew; exact HKB.out
     have m0 := (hB.cell (p := ⟨wb, woff + i, none⟩) hwb).trans d0
     unfold wpOpIn
     go_simp
     exact ⟨_, _, _, _, _, _, _, _, _, _, _, _, _, _, rfl, h0.ne (by decide), h1.ne (by decide), h2.ne (by decide), h3.ne (by decide), h4.ne (by decide), h5.ne (by decide), h6.ne (by decide), h7.ne (by decide), h8.ne (by decide), fun _ => rfl, h10.ne (by decide), h11.ne (by decide), Ph.ne hn12 hwv (by decide) (by decide)⟩
    ·have ho' := Option.some.inj ho
     subst ho'
     obtain ⟨hn12, hwv⟩ | ⟨hn12, _⟩ := hph
     rotate_left
     ·exact (getD_conf hl0 (hall hn12 10 (by decide))).elim
     obtain rfl := h9 (hd ⟨9, .data⟩ (by simp) rfl)
     obtain ⟨hn10, rfl⟩ | ⟨hn10, _⟩ := hwv
     rotate_left
     ·exact (getD_conf hl0 hn10).elim
     unfold wpOpIn
     go_simp
     exact ⟨_, _, _, _, _, _, _, _, _, _, _, _, _, _, rfl, h0.ne (by decide), h1.ne (by decide), h2.ne (by decide), h3.ne (by decide), h4.ne (by decide), h5.ne (by decide), h6.ne (by decide), h7.ne (by decide), h8.ne (by decide), h9.ne (by decide), fun _ => rfl, h11.ne (by decide), .inl ⟨by rw [getD_setF, if_neg (fun h => by cases h.1)]; exact hn12, .inr ⟨by rw [getD_setF, if_pos ⟨rfl, by rw [hz]; decide⟩], rfl⟩⟩⟩
    ·have ho' := Option.some.inj ho
     subst ho'
     obtain ⟨hn12, hwv⟩ | ⟨hn12, _⟩ := hph
     rotate_left
     ·exact (getD_conf hl0 (hall hn12 11 (by decide))).elim
     obtain rfl := h1 (hd ⟨1, .data⟩ (by simp) rfl)
     obtain rfl := h2 (hd ⟨2, .data⟩ (by simp) rfl)
     obtain rfl := h4 (hd ⟨4, .data⟩ (by simp) rfl)
     obtain rfl := h10 (hd ⟨10, .data⟩ (by simp) rfl)
     unfold wpOpIn
     go_simp
     exact ⟨_, _, _, _, _, _, _, _, _, _, _, _, _, _, rfl, h0.ne (by decide), h1.ne (by decide), h2.ne (by decide), h3.ne (by decide), h4.ne (by decide), h5.ne (by decide), h6.ne (by decide), h7.ne (by decide), h8.ne (by decide), h9.ne (by decide), h10.ne (by decide), fun _ => rfl, Ph.ne hn12 hwv (by decide) (by decide)⟩
    ·have ho' := Option.some.inj ho
     subst ho'
     have a0 := hd ⟨0, .data⟩ (by simp) rfl
     have a11 := hd ⟨11, .data⟩ (by simp) rfl
     obtain rfl := h0 a0
     obtain rfl := h11 a11
     have a10 := hc 11 _ a11 rfl ⟨10, .data⟩ (by simp) rfl
     obtain ⟨hn12, ⟨hn10, _⟩ | ⟨hn10, rfl⟩⟩ | ⟨hn12, _⟩ := hph
     ·rw [a10] at hn10; cases hn10
     rotate_left
     ·exact (getD_conf hl0 hn12).elim
     have hn13 : l.getD 13 false = true → False := fun h => getD_conf hl0 (hc 13 _ h rfl ⟨12, .data⟩ (by simp) rfl)
     unfold wpOpIn
     go_simp
     refine hRR2.out.mono ?_
     rintro e W' ⟨bb, rfl, hK, hj1, hj2⟩
     exact ⟨_, _, _, _, _, _, _, _, _, _, _, _, _, _, rfl, h0.ne (by decide), h1.ne (by decide), h2.ne (by decide), h3.ne (by decide), h4.ne (by decide), h5.ne (by decide), h6.ne (by decide), h7.ne (by decide), h8.ne (by decide), h9.ne (by decide), h10.ne (by decide), h11.ne (by decide), .inr ⟨by rw [getD_setF, if_pos ⟨rfl, by rw [hz]; decide⟩], bb, rfl, ⟨hK, hj1, hj2⟩, fun h => (hn13 (by rw [getD_setF, if_neg (fun h => by cases h.1)] at h; exact h)).elim⟩⟩
    ·have ho' := Option.some.inj ho
     subst ho'
     have a12 := hd ⟨12, .data⟩ (by simp) rfl
     obtain ⟨hn12, _⟩ | ⟨hn12, bb, rfl, hpost, _⟩ := hph
     ·rw [a12] at hn12; cases hn12
     unfold wpOpIn
     go_simp
     exact ⟨_, _, _, _, _, _, _, _, _, _, _, _, _, _, rfl, h0.ne (by decide), h1.ne (by decide), h2.ne (by decide), h3.ne (by decide), h4.ne (by decide), h5.ne (by decide), h6.ne (by decide), h7.ne (by decide), h8.ne (by decide), h9.ne (by decide), h10.ne (by decide), h11.ne (by decide), .inr ⟨by rw [getD_setF, if_neg (fun h => by cases h.1)]; exact hn12, bb, rfl, hpost, fun _ => rfl⟩⟩
  ·obtain rfl : k = g.cats.length := by omega
   gi_wp2
   refine bodyPost_end (results_none rfl _ _ _) rfl ?_
   exact ⟨fun _ => False, fun b hb => hb.elim, HZ.out, .inl ⟨⟨_, rfl⟩, HJk.out⟩⟩
end Go.Proofs.YtkfdafeonhnloaaGreatDoor
