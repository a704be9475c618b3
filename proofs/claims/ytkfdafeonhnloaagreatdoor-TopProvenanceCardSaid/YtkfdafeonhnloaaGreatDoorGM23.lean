/-
  translate.words: the closure that hands a word over.
  translate.literals: the iterator over the places of a rule's own words.
-/
import Derived.Test.YtkfdafeonhnloaaGreatDoorGM20
import Derived.Test.YtkfdafeonhnloaaGreatDoorGM8
import Derived.Test.YtkfdafeonhnloaaGreatDoorGM21
import Derived.Test.YtkfdafeonhnloaaGreatDoorGM17
import Derived.Test.YtkfdafeonhnloaaGreatDoorGM18
import Derived.Test.YtkfdafeonhnloaaGreatDoorGM16
namespace Go.Mine
open Go.RowKit
theorem Sl.ofBlk {α : Type} {f : α → List Value} {sz : Nat} {W : World} {b c : Nat} {ty : TypeId} {cs : Array Value} (h : Blk W b ty cs) {l : List α} (hx : cs.toList = l.flatMap f) (hs : ∀ x ∈ l, (f x).length = sz) (h1 : l.length ≤ c) (hc : c ≤ 9223372036854775807) : Sl f sz W (some ⟨b, 0, none⟩) c l :=
 ⟨h1, hc, hs, fun _ => ⟨b, 0, rfl, h.lt, fun i v hv => by
  simp only [Nat.zero_add, World.cell?, h.at_]
  rw [← Array.getElem?_toList, hx]
  simpa using hv⟩⟩
theorem OwnL.slT {α : Type} {f : α → List Value} {sz : Nat} {e : TypeId} {w : World} {z tb : Nat} {A : Option Addr} {n c : Nat} {l : List α} {O : Nat → Prop} (h : OwnL f sz e w z (.slice A n c) l) (hO : ∀ b, O b → b < z) : SlT f sz e tb O w A c l := by
 obtain ⟨A', c', he, hs⟩ := h.sl
 injection he with h1 h2 h3
 subst h1 h3
 have hb : ∀ a, A = some a → l ≠ [] → z ≤ a.block ∧ ∃ cs fz, w.heap[a.block]? = some (.cells cs e fz) := fun a ha hn => by
  subst ha
  obtain ⟨b, off, e1, _, _⟩ := hs.cells hn
  obtain rfl : a = ⟨b, off, none⟩ := Option.some.inj e1
  obtain ⟨⟨_, h4⟩, _⟩ := h
  rcases h4 with ⟨h4, _⟩ | ⟨g, cap, cur, hv, hg, hh, _⟩
  ·cases h4
  ·injection hv with e2
   injection e2 with e2
   injection e2 with e2
   subst e2
   exact ⟨hg, cur, _, hh⟩
 exact ⟨⟨hs, fun a ha hn ho => by have := (hb a ha hn).1; have := hO _ ho; omega⟩, fun a ha hn => .inr (hb a ha hn).2⟩
end Go.Mine
namespace Go.Mine.C
open Go.RowKit Go.Mine
def okTg (tb : Nat) (O : Nat → Prop) (W : World) (h : TargH) : Prop := SlT ic 1 3 tb O W h.dA h.dC h.deps
theorem okTg_ok (tb : Nat) : OkP 3 tb (okTg tb) := ⟨fun h hz hk => SlT.other h hz hk, fun h s => SlT.step h s, fun h ho => SlT.more h (by decide) ho⟩
def TgYield (R : Nat → Prop) (lp N base m tb : Nat) (L : List TargM) (J : Nat → (Nat → Prop) → World → Prop) (Jx : Unit → (Nat → Prop) → World → Prop) (O0 : Nat → Prop) : Prop :=
 ∀ k x O W1, k < N → Gives targV (fun k h => L[k]? = some h.m) (okTg tb) k x O W1 → J k O W1 → (∀ b, O b → (O0 b ∨ base ≤ b) ∧ b < W1.heap.size) → base ≤ W1.heap.size →
   YieldAt Fence.wide m Go.Proofs.Tryz.prog lp x W1 fun e W' => Kept (fun b => O b ∨ R b) W1 W' ∧
    ((e = .returned (.bool true) ∧ J (k + 1) O W') ∨ (e = .returned (.bool false) ∧ Jx () O W'))
def Cmp (l : List Int) (W : World) (v : Value) (w : World) : Prop := OwnL ic 1 3 w W.heap.size v l ∧ Below W.heap.size W w
def PutPh (l : Array Bool) (W0 : World) (C : Value → World → Prop) (Post : Bool → World → Prop) (v20 v23 v9 : Value) (w : World) : Prop :=
 (l.getD 6 false = false ∧ ((l.getD 3 false = false ∧ w = W0) ∨ (l.getD 3 false = true ∧ C v20 w))) ∨ (l.getD 6 false = true ∧ ∃ bb : Bool, v23 = .bool bb ∧ Post bb w ∧ (l.getD 7 false = true → v9 = .bool bb))
def PutI (x0 x1 x2 x3 x4 x10 x13 : Value) (c0 : Value) (W0 : World) (C : Value → World → Prop) (Post : Bool → World → Prop) (l : Array Bool) (a : Act) (w : World) : Prop :=
 ∃ v9 v17 v18 v19 v20 v21 v22 v23 : Value, a = { tmps := #[x0, x1, x2, x3, x4, undef, undef, undef, undef, v9, x10, x1, x2, x13, x10, x10, .tuple #[], v17, v18, v19, v20, v21, v22, v23], defers := [] } ∧
  Imp l 0 v17 c0 ∧ Imp l 1 v18 x0 ∧ Imp l 2 v19 x10 ∧ Imp l 4 v21 x3 ∧ (l.getD 5 false = true → v22 = .agg #[x0, v20, x3]) ∧ PutPh l W0 C Post v20 v23 v9 w
theorem PutPh.ne {l : Array Bool} {i : Nat} {W0 : World} {C : Value → World → Prop} {Post : Bool → World → Prop} {v20 v23 v9 : Value} {w : World} (h6 : l.getD 6 false = false) (hw : (l.getD 3 false = false ∧ w = W0) ∨ (l.getD 3 false = true ∧ C v20 w)) (h1 : i ≠ 6) (h2 : i ≠ 3) : PutPh (l.setIfInBounds i true) W0 C Post v20 v23 v9 w := by
 refine .inl ⟨by rw [getD_setF, if_neg (fun h => h1 h.1)]; exact h6, ?_⟩
 rw [getD_setF, if_neg (fun h => h2 h.1)]
 exact hw
theorem set_ne {l : Array Bool} {i j : Nat} {p : Prop} (h : l.getD j false = true → p) (hij : i ≠ j) : (l.setIfInBounds i true).getD j false = true → p := fun h' => h (by rw [getD_setF, if_neg (fun h => hij h.1)] at h'; exact h')
end Go.Mine.C
namespace Go.Proofs.YtkfdafeonhnloaaGreatDoor
open Go.RowKit Go.Shelf Go.Mine Go.Mine.C
attribute [local go_sem] Oper.semAt_some
section
variable {yB lp N base m tb : Nat} {L : List TargM} {J : Nat → (Nat → Prop) → World → Prop} {Jx : Unit → (Nat → Prop) → World → Prop} {O0 R : Nat → Prop}
set_option maxRecDepth 100000 in
set_option maxHeartbeats 4000000 in
theorem put52 (hJ : XStable J) (hY : TgYield R lp N base m tb L J Jx O0) (text : ByteArray) (dA aA : Option Addr) (dC aC : Nat) (deps above : List Int) (term : Int) (k : Nat) (O : Nat → Prop) (W : World)
  (hk : k < N) (hL : L[k]? = some (targ text deps above term)) (hd : Sl ic 1 W dA dC deps) (ha : Sl ic 1 W aA aC above) (hn : deps ≠ []) (hlen : deps.length + above.length ≤ 1000000)
  (hy : Blk W yB 113 #[.func (.yield lp) #[] #[]]) (hJ0 : J k O W) (hO : ∀ b, O b → (O0 b ∨ base ≤ b) ∧ b < W.heap.size) (hbase : base ≤ W.heap.size) (hRb : ∀ b, R b → b < W.heap.size) :
  Calls Tryz.prog 52 #[.string text, .slice dA deps.length dC, .slice aA above.length aC, .int .i64 term, .pointer (some ⟨yB, 0, none⟩)] W fun e W' => Kept (fun b => O b ∨ R b) W W' ∧
   ((e = .returned (.bool true) ∧ J (k + 1) O W') ∨ (e = .returned (.bool false) ∧ Jx () O W')) := by
 obtain ⟨W1, hW1⟩ : ∃ W1, W1 = W.alloc (.cells #[.slice dA deps.length dC, .slice aA above.length aC] 31) := ⟨_, rfl⟩
 have hb1 : Below W.heap.size W W1 := by rw [hW1]; exact kalloc (Below.refl _ _) _
 have hB1 : Blk W1 W.heap.size 31 #[.slice dA deps.length dC, .slice aA above.length aC] := by rw [hW1]; exact Blk.new W _ _
 have hcat : catL [((dA, dC, deps) : Hd), (aA, aC, above)] = deps ++ above := by simp [catL]
 have K53 := concat53 (some ⟨W.heap.size, 0, none⟩) 2 [(dA, dC, deps), (aA, aC, above)] W1 (Sl.ofBlk hB1 rfl (fun _ _ => rfl) (by simp) (by decide)) (fun e he => by
   rcases List.mem_cons.1 he with rfl | he
   ·exact hd.bel hb1
   ·obtain rfl : e = _ := by simpa using he
    exact ha.bel hb1) (by rw [hcat, List.length_append]; have := List.length_pos_iff.2 hn; omega) (by rw [hcat, List.length_append]; exact hlen)
 rw [hcat] at K53
 replace K53 := hide (show Calls Tryz.prog 53 #[.slice (some ⟨W.heap.size, 0, none⟩) 2 2] W1 _ from K53)
 have hne : deps ++ above ≠ [] := fun h => hn (List.append_eq_nil_iff.1 h).1
 have hll : (deps ++ above).length ≤ 1000000 := by rw [List.length_append]; exact hlen
 have HNE := hide hne
 have HLL := hide hll
 have HB1 := hide hb1
 have HY := hide hY
 have HJ0 := hide hJ0
 have HO := hide hO
 have HL := hide hL
 have HYB := hide hy
 have HBA := hide hbase
 have HRB := hide hRb
 clear hb1 hB1 hcat hne hll hY hJ0 hO hL hd ha hn hy hRb
 refine (callsIn_wide (n := 9)).1 (callsIn_of_wp Tryz.func52 rfl trivial ?_ rfl)
 simp only [Tryz.ntmps52]
 simp only [List.size_toArray, List.length_cons, List.length_nil, Nat.reduceAdd, Nat.reduceSub, Array.replicate_succ, Array.replicate_zero, List.push_toArray, List.append_toArray, List.nil_append, List.cons_append]
 gi_wp2_with fail
 rw [← hW1]
 refine (callsIn_wide.2 K53.out).mono ?_
 rintro e W2 ⟨v0, rfl, ho2, hb2⟩
 have hb2' := kcall HB1.out hb2
 have ho2' := ho2.mono HB1.out.size
 have K54 := hide (sort54_own W.heap.size v0 _ W2 ho2' HNE.out HLL.out)
 have HB2 := hide hb2'
 have HOW2 := hide ho2'
 clear hb2 hb2' ho2 ho2' hW1 K53
 gi_wp2_with fail
 refine (callsIn_wide.2 K54.out).mono ?_
 rintro e W3 ⟨rfl, ho3, hg3⟩
 have hb3 : Below W.heap.size W W3 := Below.grown HB2.out hg3 HB2.out.size (fun g hg => (HOW2.out.blk hg).1)
 have hml : ((deps ++ above).mergeSort fun x y => decide (x ≤ y)) ≠ [] := fun h => by
  have := congrArg List.length h
  rw [List.length_mergeSort] at this
  exact HNE.out (List.length_eq_zero_iff.1 this)
 have K55 := hide (compact55_own W.heap.size v0 _ W3.drew ho3.drew hml (by rw [List.length_mergeSort]; exact HLL.out))
 rw [compact_norm] at K55
 have HO3 := hide ho3
 have HB3 := hide hb3
 clear hb3 hml hg3 ho3 K54
 have HC : Hid (∀ v w, Cmp (norm (deps ++ above)) W v w → ∃ A c, v = .slice A (norm (deps ++ above)).length c ∧ YieldAt Fence.wide m Tryz.prog lp #[.agg #[.string text, v, .int .i64 term]] w fun e W' => ∃ bb : Bool, e = .returned (.bool bb) ∧ (Kept (fun b => O b ∨ R b) W W' ∧ (bb = true → J (k + 1) O W') ∧ (bb = false → Jx () O W'))) := hide (by
  rintro v w ⟨ho, hb⟩
  obtain ⟨A, c, rfl, hsl⟩ := ho.sl
  refine ⟨A, c, rfl, ?_⟩
  have hz := hb.size
  obtain ⟨fn, tmps, assign, body, hyy, hRR⟩ := HY.out k #[targV ⟨text, A, c, norm (deps ++ above), term⟩] O w hk ⟨_, rfl, HL.out, OwnL.slT ho (fun b hb => (HO.out b hb).2)⟩ (hJ _ _ _ _ _ HJ0.out (XStep.of_below hb fun b hb => .inl hb)) (fun b hb => ⟨(HO.out b hb).1, by have := (HO.out b hb).2; omega⟩) (Nat.le_trans HBA.out hz)
  refine ⟨fn, tmps, assign, body, hyy, hRR.mono ?_⟩
  rintro e W' ⟨hK, h⟩
  have hK' : Kept (fun b => O b ∨ R b) W W' := ⟨hK.os.trans hb.os, hK.tape.trans hb.tape, hK.output.trans hb.output, Nat.le_trans hz hK.size, fun b hbl hbo => (hK.keep b (by omega) hbo).trans (hb.block b hbl)⟩
  rcases h with ⟨rfl, h⟩ | ⟨rfl, h⟩
  ·exact ⟨true, rfl, hK', fun _ => h, fun h' => (by cases h')⟩
  ·exact ⟨false, rfl, hK', fun h' => (by cases h'), fun _ => h⟩)
 generalize norm (deps ++ above) = nl at *
 gi_wp2_with fail
 refine wpIn_region_inv' (I := PutI (.string text) (.slice dA deps.length dC) (.slice aA above.length aC) (.int .i64 term) (.pointer (some ⟨yB, 0, none⟩)) v0 (.slice (some ⟨W.heap.size, 0, none⟩) 2 2) (.func (.yield lp) #[] #[]) W3.drew (Cmp nl W)
  (fun bb W' => Kept (fun b => O b ∨ R b) W W' ∧ (bb = true → J (k + 1) O W') ∧ (bb = false → Jx () O W'))) (by kernel_rfl) ?h0 ?hend ?hstep
 case h0 => exact ⟨_, _, _, _, _, _, _, _, rfl, Imp.nil, Imp.nil, Imp.nil, Imp.nil, fun h => (by simp [Array.getD_eq_getD_getElem?, Array.getElem?_replicate] at h), .inl ⟨rfl, .inl ⟨rfl, rfl⟩⟩⟩
 case hend =>
  rintro l a w ⟨v9, v17, v18, v19, v20, v21, v22, v23, rfl, h0, h1, h2, h4, h5, hph⟩ hz hc hr
  have hal := all_listed hz (by kernel_rfl) hr
  obtain ⟨h6f, _⟩ | ⟨h6, bb, rfl, hP, h7⟩ := hph
  ·have := hal 6 (by simp)
   rw [h6f] at this; cases this
  ·obtain rfl := h7 (hal 7 (by simp))
   have HP := hide hP
   clear hP hal hr hc hz h0 h1 h2 h4 h5 h6 h7
   gi_wp2
   refine bodyPost_ret (v := .bool bb) (by simp [results, Tryz.results52, go_sem]) rfl ?_
   refine ⟨HP.out.1, ?_⟩
   cases bb
   ·exact .inr ⟨rfl, HP.out.2.2 rfl⟩
   ·exact .inl ⟨rfl, HP.out.2.1 rfl⟩
 case hstep =>
  rintro l a w i' ⟨v9, v17, v18, v19, v20, v21, v22, v23, rfl, h0, h1, h2, h4, h5, hph⟩ hz hc hi
  obtain ⟨hl0, o, ho, hd⟩ := mem_ready.1 hi
  have hi8 : i' < 8 := (Array.getElem?_eq_some_iff.1 ho).1
  have hall : l.getD 6 false = true → ∀ j, j ≤ 5 → l.getD j false = true := fun h => by
   have a5 := hc 6 _ h rfl ⟨5, .data⟩ (by simp) rfl
   have a0 := hc 6 _ h rfl ⟨0, .data⟩ (by simp) rfl
   have a1 := hc 5 _ a5 rfl ⟨1, .data⟩ (by simp) rfl
   have a3 := hc 5 _ a5 rfl ⟨3, .data⟩ (by simp) rfl
   have a4 := hc 5 _ a5 rfl ⟨4, .data⟩ (by simp) rfl
   have a2 := hc 3 _ a3 rfl ⟨2, .data⟩ (by simp) rfl
   intro j hj
   have : j = 0 ∨ j = 1 ∨ j = 2 ∨ j = 3 ∨ j = 4 ∨ j = 5 := by omega
   rcases this with rfl | rfl | rfl | rfl | rfl | rfl <;> assumption
  have hcase : i' = 0 ∨ i' = 1 ∨ i' = 2 ∨ i' = 3 ∨ i' = 4 ∨ i' = 5 ∨ i' = 6 ∨ i' = 7 := by omega
  rcases hcase with rfl | rfl | rfl | rfl | rfl | rfl | rfl | rfl
  ·have ho' := Option.some.inj ho
   subst ho'
   obtain ⟨hn6, hwv⟩ | ⟨hn6, _⟩ := hph
   rotate_left
   ·exact (getD_conf hl0 (hall hn6 0 (by decide))).elim
   have hB : Below W.heap.size W w := by
    rcases hwv with ⟨_, rfl⟩ | ⟨_, h⟩
    ·exact HB3.out.drew
    ·exact h.2
   have m0 := (HYB.out.bel hB).cell (v := .func (.yield lp) #[] #[]) 0 rfl
   unfold wpOpIn
   go_simp
   exact ⟨_, _, _, _, _, _, _, _, rfl, fun _ => rfl, h1.ne (by decide), h2.ne (by decide), h4.ne (by decide), set_ne h5 (by decide), PutPh.ne hn6 hwv (by decide) (by decide)⟩
  ·have ho' := Option.some.inj ho
   subst ho'
   obtain ⟨hn6, hwv⟩ | ⟨hn6, _⟩ := hph
   rotate_left
   ·exact (getD_conf hl0 (hall hn6 1 (by decide))).elim
   unfold wpOpIn
   go_simp
   exact ⟨_, _, _, _, _, _, _, _, rfl, h0.ne (by decide), fun _ => rfl, h2.ne (by decide), h4.ne (by decide), set_ne h5 (by decide), PutPh.ne hn6 hwv (by decide) (by decide)⟩
  ·have ho' := Option.some.inj ho
   subst ho'
   obtain ⟨hn6, hwv⟩ | ⟨hn6, _⟩ := hph
   rotate_left
   ·exact (getD_conf hl0 (hall hn6 2 (by decide))).elim
   unfold wpOpIn
   go_simp
   exact ⟨_, _, _, _, _, _, _, _, rfl, h0.ne (by decide), h1.ne (by decide), fun _ => rfl, h4.ne (by decide), set_ne h5 (by decide), PutPh.ne hn6 hwv (by decide) (by decide)⟩
  ·have ho' := Option.some.inj ho
   subst ho'
   obtain ⟨hn6, hwv⟩ | ⟨hn6, _⟩ := hph
   rotate_left
   ·exact (getD_conf hl0 (hall hn6 3 (by decide))).elim
   obtain rfl := h2 (hd ⟨2, .data⟩ (by simp) rfl)
   obtain ⟨hn3, rfl⟩ | ⟨hn3, _⟩ := hwv
   rotate_left
   ·exact (getD_conf hl0 hn3).elim
   have hn5 : l.getD 5 false = true → False := fun h => getD_conf hl0 (hc 5 _ h rfl ⟨3, .data⟩ (by simp) rfl)
   unfold wpOpIn
   go_simp
   refine (callsIn_wide.2 K55.out).mono ?_
   rintro e w' ⟨v', rfl, hob, ho', hg'⟩
   have hCm : Cmp nl W v' w' := ⟨ho', Below.grown HB3.out.drew hg' HB3.out.size (fun g hg => (HO3.out.blk hg).1)⟩
   (try go_simp)
   exact ⟨_, _, _, _, _, _, _, _, rfl, h0.ne (by decide), h1.ne (by decide), h2.ne (by decide), h4.ne (by decide), fun h => (hn5 (by rw [getD_setF, if_neg (fun h => by cases h.1)] at h; exact h)).elim, .inl ⟨by rw [getD_setF, if_neg (fun h => by cases h.1)]; exact hn6, .inr ⟨by rw [getD_setF, if_pos ⟨rfl, by rw [hz]; decide⟩], hCm⟩⟩⟩
  ·have ho' := Option.some.inj ho
   subst ho'
   obtain ⟨hn6, hwv⟩ | ⟨hn6, _⟩ := hph
   rotate_left
   ·exact (getD_conf hl0 (hall hn6 4 (by decide))).elim
   unfold wpOpIn
   go_simp
   exact ⟨_, _, _, _, _, _, _, _, rfl, h0.ne (by decide), h1.ne (by decide), h2.ne (by decide), fun _ => rfl, set_ne h5 (by decide), PutPh.ne hn6 hwv (by decide) (by decide)⟩
  ·have ho' := Option.some.inj ho
   subst ho'
   obtain ⟨hn6, hwv⟩ | ⟨hn6, _⟩ := hph
   rotate_left
   ·exact (getD_conf hl0 (hall hn6 5 (by decide))).elim
   obtain rfl := h1 (hd ⟨1, .data⟩ (by simp) rfl)
   obtain rfl := h4 (hd ⟨4, .data⟩ (by simp) rfl)
   have a3 := hd ⟨3, .data⟩ (by simp) rfl
   obtain ⟨A5, c5, rfl⟩ : ∃ A c, v20 = .slice A nl.length c := by
    rcases hwv with ⟨hn3, _⟩ | ⟨_, h⟩
    ·rw [a3] at hn3; cases hn3
    ·obtain ⟨A, c, e, _⟩ := h.1.sl
     exact ⟨A, c, e⟩
   unfold wpOpIn
   go_simp
   exact ⟨_, _, _, _, _, _, _, _, rfl, h0.ne (by decide), h1.ne (by decide), h2.ne (by decide), h4.ne (by decide), fun _ => rfl, PutPh.ne hn6 hwv (by decide) (by decide)⟩
  ·have ho' := Option.some.inj ho
   subst ho'
   have a0 := hd ⟨0, .data⟩ (by simp) rfl
   have a5 := hd ⟨5, .data⟩ (by simp) rfl
   obtain rfl := h0 a0
   obtain rfl := h5 a5
   have a3 := hc 5 _ a5 rfl ⟨3, .data⟩ (by simp) rfl
   obtain ⟨hn6, ⟨hn3, _⟩ | ⟨hn3, hCm⟩⟩ | ⟨hn6, _⟩ := hph
   ·rw [a3] at hn3; cases hn3
   rotate_left
   ·exact (getD_conf hl0 hn6).elim
   have hn7 : l.getD 7 false = true → False := fun h => getD_conf hl0 (hc 7 _ h rfl ⟨6, .data⟩ (by simp) rfl)
   obtain ⟨A, c, rfl, fn, tmps, assign, body, hyy, hRR⟩ := HC.out _ _ hCm
   have hRR2 := hide hRR
   clear hRR
   unfold wpOpIn
   go_simp
   refine (roundIn_any hRR2.out).mono ?_
   rintro e W' ⟨bb, rfl, hP⟩
   exact ⟨_, _, _, _, _, _, _, _, rfl, h0.ne (by decide), h1.ne (by decide), h2.ne (by decide), h4.ne (by decide), set_ne h5 (by decide), .inr ⟨by rw [getD_setF, if_pos ⟨rfl, by rw [hz]; decide⟩], bb, rfl, hP, fun h => (hn7 (by rw [getD_setF, if_neg (fun h => by cases h.1)] at h; exact h)).elim⟩⟩
  ·have ho' := Option.some.inj ho
   subst ho'
   have a6 := hd ⟨6, .data⟩ (by simp) rfl
   have a5 := hc 6 _ a6 rfl ⟨5, .data⟩ (by simp) rfl
   obtain rfl := h5 a5
   obtain ⟨hn6, _⟩ | ⟨hn6, bb, rfl, hpost, _⟩ := hph
   ·rw [a6] at hn6; cases hn6
   unfold wpOpIn
   go_simp
   exact ⟨_, _, _, _, _, _, _, _, rfl, h0.ne (by decide), h1.ne (by decide), h2.ne (by decide), h4.ne (by decide), fun _ => rfl, .inr ⟨by rw [getD_setF, if_neg (fun h => by cases h.1)]; exact hn6, bb, rfl, hpost, fun _ => rfl⟩⟩
end
end Go.Proofs.YtkfdafeonhnloaaGreatDoor
namespace Go.Mine
open Go.RowKit
theorem Sl.tail1 {α : Type} {f : α → List Value} {sz : Nat} {W : World} {b off c : Nat} {x : α} {l : List α} (h : Sl f sz W (some ⟨b, off, none⟩) c (x :: l)) : Sl f sz W (if c = 1 then some ⟨b, off, none⟩ else some ⟨b, off + sz, none⟩) (c - 1) l := by
 have hle := h.le
 have hmx := h.max
 rw [List.length_cons] at hle
 split
 ·have : l = [] := List.length_eq_zero_iff.1 (by omega)
  subst this
  exact Sl.nil (by omega)
 ·refine ⟨by omega, by omega, fun y hy => h.size y (List.mem_cons_of_mem _ hy), fun _ => ?_⟩
  obtain ⟨b', off', e, hb, hc⟩ := h.cells (by simp)
  cases e
  refine ⟨b, off + sz, rfl, hb, fun i v hv => ?_⟩
  have := hc (sz + i) v (by
   rw [List.flatMap_cons, List.getElem?_append_right (by rw [h.size x (by simp)]; omega), h.size x (by simp), Nat.add_sub_cancel_left]; exact hv)
  rw [Nat.add_assoc]; exact this
end Go.Mine
namespace Go.Mine.C
open Go.RowKit Go.Mine
theorem lits_cat {p : PartM} {ps : List PartM} {k : Tree} {ks : List Tree} {i : Int} (h : p.isCat = true) : litsGo (p :: ps) (k :: ks) i = litsGo ps ks (litsGo.untilT k) := by
 rw [litsGo, if_pos h]
theorem lits_text {p : PartM} {ps : List PartM} {ks : List Tree} {i : Int} (h : p.isCat = false) : litsGo (p :: ps) ks i = i :: litsGo ps ks (i + 1) := by
 conv => lhs; unfold litsGo
 rw [if_neg (by rw [h]; decide)]
theorem treeh_at {w : World} {A : Option Addr} {c : Nat} {l : List TreeH} (h : Sl treeC 5 w A c l) {k : Nat} (hk : k < l.length) : ∃ (x : TreeH) (b off : Nat), l[k]? = some x ∧ l.drop k = x :: l.drop (k + 1) ∧ A = some ⟨b, off, none⟩ ∧ b < w.heap.size ∧
  w.cell? ⟨b, off + k * 5, none⟩ = some (.int .i64 x.rule) ∧ w.cell? ⟨b, off + k * 5 + 1, none⟩ = some (.int .i64 x.item) ∧ w.cell? ⟨b, off + k * 5 + 2, none⟩ = some (.int .i64 x.from_) ∧ w.cell? ⟨b, off + k * 5 + 3, none⟩ = some (.int .i64 x.until_) ∧ w.cell? ⟨b, off + k * 5 + 4, none⟩ = some (.slice x.kA x.kids.length x.kC) := by
 obtain ⟨x, b, off, hx, hd, e, hb, hc⟩ := h.at_ hk
 exact ⟨x, b, off, hx, hd, e, hb, by simpa using hc 0 _ rfl, hc 1 _ rfl, hc 2 _ rfl, hc 3 _ rfl, hc 4 _ rfl⟩
structure LitSt (parts : List PartM) (kids : List TreeH) (ks : List Tree) (L : List Int) (R : Nat → Prop) (w0 : World) (base : Nat) (J : Nat → (Nat → Prop) → World → Prop) (j m k : Nat) (a : Int) (A : Option Addr) (c : Nat) (wr : World) : Prop where
 cnt : (parts.drop j).countP PartM.isCat = kids.length - m
 mle : m ≤ kids.length
 left : L.drop k = litsGo (parts.drop j) (ks.drop m) a
 kle : k ≤ L.length
 sl : Sl treeC 5 wr A c (kids.drop m)
 inR : ∀ p, A = some p → kids.drop m ≠ [] → R p.block
 jj : J k (fun _ => False) wr
 size : base ≤ wr.heap.size
 same : ∀ b, R b → wr.heap[b]? = w0.heap[b]?
theorem LitSt.keep {parts : List PartM} {kids : List TreeH} {ks : List Tree} {L : List Int} {R : Nat → Prop} {w0 : World} {base : Nat} {J : Nat → (Nat → Prop) → World → Prop} {j m k : Nat} {a : Int} {A : Option Addr} {c : Nat} {w w' : World} (h : LitSt parts kids ks L R w0 base J j m k a A c w)
  (hz : w.heap.size ≤ w'.heap.size) (hk : ∀ b, R b → w'.heap[b]? = w.heap[b]?) (hj : J k (fun _ => False) w') : LitSt parts kids ks L R w0 base J j m k a A c w' :=
 ⟨h.cnt, h.mle, h.left, h.kle, h.sl.keep (fun p hp hn _ => hk _ (h.inR p hp hn)) hz, h.inR, hj, Nat.le_trans h.size hz, fun b hb => (hk b hb).trans (h.same b hb)⟩
theorem LitSt.bel {parts : List PartM} {kids : List TreeH} {ks : List Tree} {L : List Int} {R : Nat → Prop} {w0 : World} {base : Nat} {J : Nat → (Nat → Prop) → World → Prop} {j m k : Nat} {a : Int} {A : Option Addr} {c : Nat} {w w' : World} (h : LitSt parts kids ks L R w0 base J j m k a A c w)
  (hJ : XStable J) (hR : ∀ b, R b → b < w.heap.size) (hb : Below w.heap.size w w') : LitSt parts kids ks L R w0 base J j m k a A c w' :=
 h.keep hb.size (fun b hR' => hb.block b (hR b hR')) (hJ _ _ _ _ _ h.jj (XStep.of_below hb fun b hb => .inl hb))
end Go.Mine.C
namespace Go.Proofs.YtkfdafeonhnloaaGreatDoor
open Go.RowKit Go.Shelf Go.Mine Go.Mine.C
attribute [local go_sem] Oper.semAt_some
set_option maxRecDepth 100000 in
set_option maxHeartbeats 4000000 in
theorem literals90 (tb rb : Nat) (rule item from_ until_ : Int) (kA : Option Addr) (kC : Nat) (kids : List TreeH) (cat : ByteArray) (catNo : Int) (pA gA : Option Addr) (pC gC : Nat) (parts : List PartM) (gn : Nat) (cost : Int) (ks : List Tree) (R : Nat → Prop) (w0 : World)
  (htb : Blk w0 tb 52 #[.int .i64 rule, .int .i64 item, .int .i64 from_, .int .i64 until_, .slice kA kids.length kC]) (hrb : Blk w0 rb 111 #[.string cat, .int .i64 catNo, .slice pA parts.length pC, .slice gA gn gC, .int .i64 cost])
  (hk : Sl treeC 5 w0 kA kC kids) (hp : Sl partC 3 w0 pA pC parts) (hR : R tb ∧ R rb) (hRk : ∀ a, kA = some a → kids ≠ [] → R a.block) (hRp : ∀ a, pA = some a → parts ≠ [] → R a.block)
  (hu : kids.map (fun h => h.until_) = ks.map litsGo.untilT) (hc : parts.countP PartM.isCat = kids.length) (hb : ∀ h ∈ kids, 0 ≤ h.until_ ∧ h.until_ ≤ 16) (hf : 0 ≤ from_ ∧ from_ ≤ 16) (hpl : parts.length ≤ 16) :
  IterG Tryz.prog 90 #[.pointer (some ⟨tb, 0, none⟩), .pointer (some ⟨rb, 0, none⟩)] (litsGo parts ks from_).length (fun k x _ _ => ∃ n, (litsGo parts ks from_)[k]? = some n ∧ x = #[.int .i64 n]) none (fun _ => False) R w0 := by
 intro n lp J Jx W hwW hRW hJ hJx hY h0
 have hsame : ∀ b, R b → W.heap[b]? = w0.heap[b]? := fun b hb => (hRW b (.inr hb)).2
 have HV : Hid (∀ wr : World, w0.heap.size ≤ wr.heap.size → (∀ b, R b → wr.heap[b]? = w0.heap[b]?) → Blk wr tb 52 #[.int .i64 rule, .int .i64 item, .int .i64 from_, .int .i64 until_, .slice kA kids.length kC] ∧ Blk wr rb 111 #[.string cat, .int .i64 catNo, .slice pA parts.length pC, .slice gA gn gC, .int .i64 cost] ∧ Sl treeC 5 wr kA kC kids ∧ Sl partC 3 wr pA pC parts) := hide (fun wr hz hr =>
  ⟨Blk.heap htb (hr tb hR.1), Blk.heap hrb (hr rb hR.2), hk.keep (fun a ha hn _ => hr _ (hRk a ha hn)) hz, hp.keep (fun a ha hn _ => hr _ (hRp a ha hn)) hz⟩)
 obtain ⟨v1, v2, v3, v4⟩ := HV.out W hwW hsame
 have c2 := v1.cell (v := .int .i64 from_) 2 rfl
 have c4 := v1.cell (v := .slice kA kids.length kC) 4 rfl
 have cl := v1.lt
 have d2 := v2.cell (v := .slice pA parts.length pC) 2 rfl
 have dl := v2.lt
 have hple := hp.le
 have hpmx := hp.max
 have hkle := hk.le
 have hkmx := hk.max
 have h00 : LitSt parts kids ks (litsGo parts ks from_) R w0 W.heap.size J 0 0 0 from_ kA kC W := ⟨by simpa using hc, Nat.zero_le _, rfl, Nat.zero_le _, v3, hRk, h0, Nat.le_refl _, hsame⟩
 have H0 := hide (h00.bel hJ (fun b hb => Nat.lt_of_lt_of_le (hRW b (.inr hb)).1 hwW) (Below.refl _ _).drew)
 clear h00
 have HY := hide @hY
 have HJ := hide @hJ
 have HWW := hide hwW
 have HU := hide hu
 have HB := hide hb
 have HRLT := hide (fun b (hb : R b) => (hRW b (.inr hb)).1)
 clear hY hJ h0 hRW htb hrb hk hp hR hRk hRp hu hc hb hJx hsame v1 v2 v3 v4 hwW
 generalize litsGo parts ks from_ = L at *
 refine callsIn_of_wp Tryz.func90 rfl trivial ?_ rfl
 simp only [Tryz.ntmps90]
 simp only [List.size_toArray, List.length_cons, List.length_nil, Nat.reduceAdd, Nat.reduceSub, Array.replicate_succ, Array.replicate_zero, List.push_toArray, List.append_toArray, List.nil_append, List.cons_append]
 gi_wp2_with fail
 refine wpIn_region_still_lit (ro := none) (by kernel_rfl) (by kernel_rfl) ?_
 repeat ((with_reducible refine wpStill_step (fun K hK => ?_)); go_simp; (try go_bits); (with_reducible refine hK _ ?_); clear hK K)
 (with_reducible refine wpStill_nil ?_)
 gi_wp2_with fail
 clear c2 c4 cl d2 dl
 gi_loopw [4, 5, 15] (fun av kv iv wr => ∃ (j m k : Nat) (a : Int) (A : Option Addr) (c nk : Nat), iv = .int .i64 j ∧ av = .int .i64 a ∧ kv = .slice A nk c ∧ j ≤ parts.length ∧ (0 ≤ a ∧ a ≤ 16 + (j : Int)) ∧ Hid ((kids.drop m).length = nk) ∧ Hid (LitSt parts kids ks L R w0 W.heap.size J j m k a A c wr)) (fun _ _ iv _ => parts.length - (Go.Mine.nI iv).toNat)
 case atStart => exact ⟨0, 0, 0, from_, kA, kC, kids.length, rfl, rfl, rfl, Nat.zero_le _, by omega, hide rfl, H0⟩
 case round =>
  clear H0
  obtain ⟨j, m, k, a, A, c, nk, rfl, rfl, rfl, hj, ha, HNK, HS⟩ := hrel
  obtain ⟨v1, v2, v3, v4⟩ := HV.out wr (Nat.le_trans HWW.out HS.out.size) HS.out.same
  by_cases hlt : j < parts.length
  ·obtain ⟨p1, pb, po, hp1, hpd, rfl, hpbw, e0, e1, e2⟩ := part_at v4 hlt
   have hcnt := HS.out.cnt
   rw [hpd, List.countP_cons] at hcnt
   have hleft := HS.out.left
   rw [hpd] at hleft
   have hRw : ∀ b, R b → b < wr.heap.size := fun b hR => Nat.lt_of_lt_of_le (HRLT.out b hR) (Nat.le_trans HWW.out HS.out.size)
   clear v1 v2 v3 v4 hpd hp1
   by_cases ht : p1.text.size = 0
   ·have hcat : p1.isCat = true := decide_eq_true ht
    rw [hcat] at hcnt
    simp only [if_true] at hcnt
    have hmk : m < kids.length := by have := HS.out.mle; omega
    obtain ⟨x, kb, ko, hx, hxd, rfl, hkb, _, _, _, f3, _⟩ := treeh_at (k := 0) HS.out.sl (by rw [List.length_drop]; omega)
    have hkm : kids[m]? = some x := by rw [List.getElem?_drop] at hx; simpa using hx
    have hsl := HS.out.sl
    have hdr : kids.drop m = x :: kids.drop (m + 1) := drop_of_get hkm
    rw [hdr] at hsl
    obtain ⟨t1, ht1, hut⟩ : ∃ t1, ks[m]? = some t1 ∧ litsGo.untilT t1 = x.until_ := by
     have h1 : (ks.map litsGo.untilT)[m]? = some x.until_ := by rw [← HU.out, List.getElem?_map, hkm]; rfl
     rw [List.getElem?_map] at h1
     cases hx : ks[m]? with
     | none => rw [hx] at h1; cases h1
     | some t => rw [hx] at h1; exact ⟨t, rfl, Option.some.inj h1⟩
    rw [drop_of_get ht1, lits_cat hcat, hut] at hleft
    have hub := HB.out x (List.mem_of_getElem? hkm)
    have hRk : R kb := HS.out.inR _ rfl (by rw [hdr]; simp)
    have hnk := HNK.out
    rw [hdr, List.length_cons] at hnk
    generalize hnr : (kids.drop (m + 1)).length = nr at hnk
    subst hnk
    have hcle := hsl.le
    rw [List.length_cons, hnr] at hcle
    have hcmx := hsl.max
    obtain ⟨A', hA'⟩ : ∃ A', A' = (if c = 1 then some (⟨kb, ko, none⟩ : Addr) else some ⟨kb, ko + 5, none⟩) := ⟨_, rfl⟩
    have hN : LitSt parts kids ks L R w0 W.heap.size J (j + 1) (m + 1) k x.until_ A' (c - 1) wr := ⟨by omega, by omega, hleft, HS.out.kle, by rw [hA']; exact hsl.tail1, fun p hp _ => by
     rw [hA'] at hp
     split at hp <;> (cases hp; exact hRk), HS.out.jj, HS.out.size, HS.out.same⟩
    have HN := hide (fun w' hb => hN.bel (w' := w') HJ.out hRw hb)
    have HNR := hide hnr
    have HAE := hide hA'
    have htx : p1.text = ByteArray.empty := str_empty ht
    rw [htx] at e2
    have gb : (1 : Int) ≤ (nr : Int) + 1 := by omega
    rw [Nat.zero_mul, Nat.add_zero] at f3
    have HNN := hide (show ((nr + 1 : Nat) : Int) - 1 = (nr : Int) by omega)
    clear hN hsl hdr hkm hx hxd ht1 hut hleft hRk hnr hcnt hmk HNK HS hA' hcat ht htx
    gi_wp2_with fail
    refine wpIn_region_still_lit (ro := none) (by kernel_rfl) (by kernel_rfl) ?_
    repeat ((with_reducible refine wpStill_step (fun K hK => ?_)); go_simp; (try go_bits); (with_reducible refine hK _ ?_); clear hK K)
    (with_reducible refine wpStill_nil ?_)
    rw [← HAE.out]
    gi_wp2
    go_roundw
    case rel => exact ⟨j + 1, m + 1, k, x.until_, A', c - 1, nr, by go_num, rfl, rfl, by omega, by omega, HNR, hide (HN.out _ (kalloc (Below.refl wr.heap.size wr) _).drew)⟩
    case measure => simp [Go.Mine.nI]; omega
   ·have hcat : p1.isCat = false := decide_eq_false ht
    rw [lits_text hcat] at hleft
    have hlk : L[k]? = some a := by
     have := congrArg (fun l => l[0]?) hleft
     simpa using this
    have hkl : k < L.length := (List.getElem?_eq_some_iff.1 hlk).1
    have hleft' : L.drop (k + 1) = litsGo (parts.drop (j + 1)) (ks.drop m) (a + 1) := by
     have := congrArg List.tail hleft
     simpa using this
    rw [hcat] at hcnt
    simp only [Bool.false_eq_true, if_false, Nat.add_zero] at hcnt
    have g0 := str_ne ht
    have hN : ∀ w', wr.heap.size ≤ w'.heap.size → (∀ b, R b → w'.heap[b]? = wr.heap[b]?) → J (k + 1) (fun _ => False) w' → LitSt parts kids ks L R w0 W.heap.size J (j + 1) m (k + 1) (a + 1) A c w' := fun w' hz hk hj =>
     ⟨hcnt, HS.out.mle, hleft', hkl, HS.out.sl.keep (fun p hp hn _ => hk _ (HS.out.inR p hp hn)) hz, HS.out.inR, hj, Nat.le_trans HS.out.size hz, fun b hb => (hk b hb).trans (HS.out.same b hb)⟩
    have HN := hide hN
    have hb1 := kalloc (Below.refl wr.heap.size wr) (.cells #[.string p1.cat, .int .i64 p1.catNo, .string p1.text] 125)
    have hS1 := HS.out.bel HJ.out hRw hb1
    obtain ⟨fn, tmps, assign, body, hyy, hRR⟩ := HY.out k #[.int .i64 a] (fun _ => False) _ hkl ⟨a, hlk, rfl⟩ hS1.jj (fun b hb => hb.elim) hS1.size
    replace hRR := hide hRR
    have HRW := hide hRw
    have HB1 := hide hb1
    have HZ := hide hS1.size
    clear hN hS1 hb1 hleft hleft' hcat hcnt hRw HS hlk ht
    gi_wp2_with fail
    refine hRR.out.mono ?_
    rintro e W' ⟨hK, (⟨rfl, hj'⟩ | ⟨rfl, hjx⟩)⟩
    ·have HS' := hide (HN.out W' (Nat.le_trans HB1.out.size hK.size) (fun b hb => (hK.keep b (Nat.lt_of_lt_of_le (HRW.out b hb) HB1.out.size) (.inr hb)).trans (HB1.out.block b (HRW.out b hb))) hj')
     clear hK hj' hRR hyy HN HRW HB1
     gi_wp2
     go_roundw
     case rel => exact ⟨j + 1, m, k + 1, a + 1, A, c, nk, by go_num, by go_num, rfl, by omega, by omega, HNK, HS'⟩
     case measure => simp [Go.Mine.nI]; omega
    ·have hKz := Nat.le_trans HZ.out hK.size
     gi_wp2
     refine bodyPost_ret (results_none rfl _ _ _) rfl ?_
     exact ⟨fun _ => False, fun b hb => hb.elim, hKz, .inr ⟨⟨_, rfl⟩, hjx⟩⟩
  ·obtain rfl : j = parts.length := by omega
   have hleft := HS.out.left
   rw [List.drop_length] at hleft
   have hk0 : k = L.length := by
    have h1 : litsGo ([] : List PartM) (ks.drop m) a = [] := by unfold litsGo; rfl
    rw [h1] at hleft
    have := congrArg List.length hleft
    have := HS.out.kle
    simp at *; omega
   subst hk0
   clear v1 v2 v3 v4 hleft
   gi_wp2
   refine bodyPost_end (results_none rfl _ _ _) rfl ?_
   exact ⟨fun _ => False, fun b hb => hb.elim, HS.out.size, .inl ⟨⟨_, rfl⟩, HS.out.jj⟩⟩
end Go.Proofs.YtkfdafeonhnloaaGreatDoor
