/-
  translate.words: what the walk reads; literals; the walk at a phrase.
  translate.words: what the walk promises; a node's kids, plainly and in memory.
-/
import Derived.Test.YtkfdafeonhnloaaGreatDoorGM23
import Derived.Test.YtkfdafeonhnloaaGreatDoorGM14
namespace Go.Mine
open Go.RowKit
theorem Sl.kept {α : Type} {f : α → List Value} {sz : Nat} {R : Nat → Prop} {w w' : World} {A : Option Addr} {c : Nat} {l : List α} (h : Sl f sz w A c l) (k : Kept R w w') (hr : ∀ a, A = some a → l ≠ [] → R a.block) : Sl f sz w' A c l :=
 h.keep (fun a ha hn hlt => k.keep _ hlt (hr a ha hn)) k.size
theorem Sl.low {α : Type} {f : α → List Value} {sz : Nat} {w w' : World} {A : Option Addr} {c : Nat} {l : List α} (h : Sl f sz w A c l) (hz : w.heap.size ≤ w'.heap.size) (hk : ∀ b, b < w.heap.size → w'.heap[b]? = w.heap[b]?) : Sl f sz w' A c l :=
 h.keep (fun _ _ _ hlt => hk _ hlt) hz
theorem Sl.lt {α : Type} {f : α → List Value} {sz : Nat} {w : World} {A : Option Addr} {c : Nat} {l : List α} (h : Sl f sz w A c l) : ∀ a, A = some a → l ≠ [] → a.block < w.heap.size := fun a ha hn => by
 obtain ⟨b, off, e, hb, _⟩ := h.cells hn
 rw [ha] at e; cases e; exact hb
end Go.Mine
namespace Go.Mine.C
open Go.RowKit Go.Mine
theorem Blk.kept {R : Nat → Prop} {w w' : World} {b : Nat} {ty : TypeId} {cs : Array Value} (h : Blk w b ty cs) (k : Kept R w w') (hb : R b) : Blk w' b ty cs := Blk.heap h (k.keep b h.lt hb)
structure WkIn (gB pB iB wB yB lp : Nat) (g : GramH) (iA : Option Addr) (nI iC : Nat) (w0 : World) (base : Nat) (O : Nat → Prop) (W : World) : Prop where
 gb : Blk W gB 26 #[.string g.name, .slice g.cA g.cats.length g.cC, .string g.start, .int .i64 g.startNo, .slice g.eA g.entries.length g.eC, .slice g.rA g.rules.length g.rC]
 ib : Blk W iB 46 #[.slice iA nI iC]
 yb : Blk W yB 113 #[.func (.yield lp) #[] #[]]
 pb : Blk W pB 118 #[.func (.func 52) #[] #[.pointer (some ⟨yB, 0, none⟩)]]
 wb : Blk W wB 114 #[.func (.func 56) #[] #[.pointer (some ⟨iB, 0, none⟩), .pointer (some ⟨pB, 0, none⟩), .pointer (some ⟨gB, 0, none⟩), .pointer (some ⟨wB, 0, none⟩)]]
 lo : gB < w0.heap.size ∧ iB < w0.heap.size
 o : O yB ∧ O pB ∧ O wB
 same : ∀ b, b < w0.heap.size → W.heap[b]? = w0.heap[b]?
 size : w0.heap.size ≤ base ∧ base ≤ W.heap.size
theorem WkIn.kept {gB pB iB wB yB lp : Nat} {g : GramH} {iA : Option Addr} {nI iC : Nat} {w0 : World} {base : Nat} {O E : Nat → Prop} {W W' : World} (h : WkIn gB pB iB wB yB lp g iA nI iC w0 base O W) (k : Kept E W W') (hE : ∀ b, O b ∨ b < w0.heap.size → E b) : WkIn gB pB iB wB yB lp g iA nI iC w0 base O W' :=
 ⟨Blk.kept h.gb k (hE _ (.inr h.lo.1)), Blk.kept h.ib k (hE _ (.inr h.lo.2)), Blk.kept h.yb k (hE _ (.inl h.o.1)), Blk.kept h.pb k (hE _ (.inl h.o.2.1)), Blk.kept h.wb k (hE _ (.inl h.o.2.2)), h.lo, h.o,
  fun b hb => (k.keep b (by have := h.size; omega) (hE _ (.inr hb))).trans (h.same b hb), ⟨h.size.1, Nat.le_trans h.size.2 k.size⟩⟩
theorem WkIn.more {gB pB iB wB yB lp : Nat} {g : GramH} {iA : Option Addr} {nI iC : Nat} {w0 : World} {base : Nat} {O O' : Nat → Prop} {W : World} (h : WkIn gB pB iB wB yB lp g iA nI iC w0 base O W) (ho : ∀ b, O b → O' b) : WkIn gB pB iB wB yB lp g iA nI iC w0 base O' W :=
 ⟨h.gb, h.ib, h.yb, h.pb, h.wb, h.lo, ⟨ho _ h.o.1, ho _ h.o.2.1, ho _ h.o.2.2⟩, h.same, h.size⟩
end Go.Mine.C
namespace Go.Proofs.YtkfdafeonhnloaaGreatDoor
open Go.RowKit Go.Shelf Go.Mine Go.Mine.C
attribute [local go_sem] Oper.semAt_some
theorem e52 : ∀ args w, (callFunc 52 args).run Tryz.prog w = .ok (.enter 52 args) w := enters_of Tryz.func52 (by kernel_rfl) rfl
theorem e56 : ∀ args w, (callFunc 56 args).run Tryz.prog w = .ok (.enter 56 args) w := enters_of Tryz.func56 (by kernel_rfl) rfl
theorem literals58 (r : RuleH) (h : TreeH) (w : World) : Calls Tryz.prog 58 #[ruleV r, treeV h] w fun e w' => e = .returned (.func (.func 90) #[] #[.pointer (some ⟨w.heap.size + 1, 0, none⟩), .pointer (some ⟨w.heap.size, 0, none⟩)]) ∧
  Blk w' (w.heap.size + 1) 52 #[.int .i64 h.rule, .int .i64 h.item, .int .i64 h.from_, .int .i64 h.until_, .slice h.kA h.kids.length h.kC] ∧ Blk w' w.heap.size 111 #[.string r.cat, .int .i64 r.catNo, .slice r.pA r.parts.length r.pC, .slice r.gA r.gives.length r.gC, .int .i64 r.cost] ∧ Below w.heap.size w w' := by
 simp only [ruleV, treeV]
 have hmf : ∀ (fn : Fn) (first cap : Array Value) (w : World), (Instr.makeFunc fn first cap).run Tryz.prog w = .ok (.func fn first cap) w := fun _ _ _ _ => rfl
 go_enter Tryz.func58, Tryz.ntmps58
 go_wp2
 go_ret
 exact ⟨rfl, Blk.new1 w _ _ _, (Blk.new w _ _).alloc _, kalloc (kalloc (Below.refl _ _) _) _⟩
section
variable {gB pB iB wB yB lp N base m tb : Nat} {g : GramH} {iA : Option Addr} {iC : Nat} {items : List ItemH} {w0 : World} {L : List TargM} {J : Nat → (Nat → Prop) → World → Prop} {Jx : Unit → (Nat → Prop) → World → Prop}
set_option maxRecDepth 100000 in
set_option maxHeartbeats 4000000 in
theorem walk56_leaf (hJ : XStable J) (hJx : XStable Jx) (hY : TgYield (fun b => b < w0.heap.size) lp N base m tb L J Jx (fun _ => False)) (hil : Sl itemC 6 w0 iA iC items) (hio : ∀ x ∈ items, ItemOk w0 x)
  (i : Nat) (f u : Int) (xc xf xu xco : Int) (tA : Option Addr) (tC : Nat) (tgt : List ByteArray) (xt : Int) (hx : items[i]? = some ⟨xc, xf, xu, xco, tA, tC, tgt, xt⟩) (hp : 0 ≤ xf ∧ xf < xu ∧ xu ≤ 16) (above : List Int) (A : Option Addr) (c k0 : Nat) (O : Nat → Prop) (W : World)
  (hk : k0 + tgt.length ≤ N) (hL : ∀ (j : Nat) (s : ByteArray), tgt[j]? = some s → L[k0 + j]? = some (targ s (span xf xu) above xt)) (ha : Sl ic 1 W A c above) (haE : ∀ a, A = some a → above ≠ [] → O a.block ∨ a.block < w0.heap.size)
  (hal : above.length ≤ 100000) (hIn : WkIn gB pB iB wB yB lp g iA items.length iC w0 base O W) (hj : J k0 O W) (hO : ∀ b, O b → base ≤ b ∧ b < W.heap.size) :
  Calls Tryz.prog 56 #[treeV ⟨-1, i, f, u, none, 0, []⟩, .slice A above.length c, .pointer (some ⟨iB, 0, none⟩), .pointer (some ⟨pB, 0, none⟩), .pointer (some ⟨gB, 0, none⟩), .pointer (some ⟨wB, 0, none⟩)] W fun e W' => Kept (fun b => O b ∨ b < w0.heap.size) W W' ∧
   ((e = .returned (.bool true) ∧ J (k0 + tgt.length) O W') ∨ (e = .returned (.bool false) ∧ Jx () O W')) := by
 simp only [treeV]
 have hilW := hil.low (Nat.le_trans hIn.size.1 hIn.size.2) hIn.same
 obtain ⟨x', ib, io, hx', _, hAi, hibw, d0, d1, d2, d3, d4, d5⟩ := item_at hilW (lt_of_get hx)
 obtain rfl : (⟨xc, xf, xu, xco, tA, tC, tgt, xt⟩ : ItemH) = x' := by rw [hx] at hx'; exact Option.some.inj hx'
 dsimp only at d0 d1 d2 d3 d4 d5
 have htW := (show Sl sc 1 w0 tA tC tgt from hio _ (List.mem_of_getElem? hx)).low (Nat.le_trans hIn.size.1 hIn.size.2) hIn.same
 have hi := lt_of_get hx
 have hile := hil.le
 have himx := hil.max
 have htle := htW.le
 have htmx := htW.max
 have i0 := hIn.ib.cell (v := .slice iA items.length iC) 0 rfl
 have il := hIn.ib.lt
 obtain ⟨W1, hW1⟩ : ∃ W1, W1 = (W.alloc (.cells #[.int .i64 (-1), .int .i64 i, .int .i64 f, .int .i64 u, .slice none 0 0] 52)).alloc (.cells #[.int .i64 xc, .int .i64 xf, .int .i64 xu, .int .i64 xco, .slice tA tgt.length tC, .int .i64 xt] 68) := ⟨_, rfl⟩
 have hb1 : Below W.heap.size W W1 := by rw [hW1]; exact kalloc (kalloc (Below.refl _ _) _) _
 have hz1 : W1.heap.size = W.heap.size + 2 := by rw [hW1]; simp
 have hB9 : Blk W1 (W.heap.size + 1) 68 #[.int .i64 xc, .int .i64 xf, .int .i64 xu, .int .i64 xco, .slice tA tgt.length tC, .int .i64 xt] := by rw [hW1]; exact Blk.new1 W _ _ _
 obtain ⟨O1, hO1⟩ : ∃ O1 : Nat → Prop, O1 = fun b => O b ∨ (W.heap.size ≤ b ∧ b < W1.heap.size) := ⟨_, rfl⟩
 obtain ⟨E, hE⟩ : ∃ E : Nat → Prop, E = fun b => O1 b ∨ b < w0.heap.size := ⟨_, rfl⟩
 have hOE : ∀ b, O b ∨ b < w0.heap.size → E b := fun b hb => by
  rw [hE, hO1]
  rcases hb with h | h
  ·exact .inl (.inl h)
  ·exact .inr h
 have hE9 : E (W.heap.size + 1) := by rw [hE, hO1]; exact .inl (.inr ⟨by omega, by omega⟩)
 have HE9W := hide hE9
 have HV : Hid (∀ wr, Kept E W1 wr → WkIn gB pB iB wB yB lp g iA items.length iC w0 base O1 wr ∧ Blk wr (W.heap.size + 1) 68 #[.int .i64 xc, .int .i64 xf, .int .i64 xu, .int .i64 xco, .slice tA tgt.length tC, .int .i64 xt] ∧ Sl sc 1 wr tA tC tgt ∧ Sl ic 1 wr A c above) := hide (fun wr hk => by
  have h1 := (hIn.kept (Kept.of_below (R := E) hb1) hOE).kept hk hOE
  refine ⟨h1.more (fun b hb => by rw [hO1]; exact .inl hb), Blk.kept hB9 hk hE9, (htW.bel hb1).kept hk (fun a ha hn => hOE _ (.inr ((show Sl sc 1 w0 tA tC tgt from hio _ (List.mem_of_getElem? hx)).lt a ha hn))), (ha.bel hb1).kept hk fun a h1 h2 => hOE _ (haE a h1 h2)⟩)
 have HJ1 : Hid (J (k0 + 0) O1 W1) := hide (hJ _ _ _ _ _ hj (XStep.of_below hb1 fun b hb => by rw [hO1] at hb; rcases hb with h | h; exact .inl h; exact .inr h))
 have HOB := hide (show ∀ b, O1 b → (False ∨ base ≤ b) ∧ b < W1.heap.size from fun b hb => by
  rw [hO1] at hb
  rcases hb with h | h
  ·exact ⟨.inr (hO b h).1, by have := (hO b h).2; omega⟩
  ·exact ⟨.inr (by have := hIn.size.2; omega), h.2⟩)
 have HFIN : Hid (∀ wr, Kept E W1 wr → Kept (fun b => O b ∨ b < w0.heap.size) W wr) := hide (fun wr hk => (Kept.of_below hb1).trans (hk.mono hOE))
 have HDROP : Hid (∀ b, O b → O1 b) := hide (fun b hb => by rw [hO1]; exact .inl hb)
 have HEB := hide (show ∀ b, E b ↔ (O1 b ∨ b < w0.heap.size) from fun b => by rw [hE])
 have HBW := hide (show base ≤ W1.heap.size ∧ w0.heap.size ≤ W1.heap.size from ⟨by have := hIn.size; omega, by have := hIn.size; omega⟩)
 have K57 := hide (fun w => span57 xf xu w hp.1 (by omega))
 have hsn : span xf xu ≠ [] := fun e => by
  have := congrArg List.length e
  rw [span_len] at this; simp at this; omega
 have hsl : (span xf xu).length ≤ 16 := by rw [span_len]; omega
 have HSN := hide hsn
 have HSL := hide hsl
 have HY := hide hY
 have HJ := hide hJ
 have HJX := hide hJx
 have HL := hide hL
 have HN := hide hk
 have HAL := hide hal
 subst hAi
 clear hIn ha hO hj hB9 hOE hE9 hz1 hio htW hY hJ hJx hL hk hal hsn hsl hil hilW haE hE hO1 hb1 hx hx'
 refine (callsIn_wide (n := 9)).1 (callsIn_of_wp Tryz.func56 rfl trivial ?_ rfl)
 simp only [Tryz.ntmps56]
 simp only [List.size_toArray, List.length_cons, List.length_nil, Nat.reduceAdd, Nat.reduceSub, Array.replicate_succ, Array.replicate_zero, List.push_toArray, List.append_toArray, List.nil_append, List.cons_append]
 gi_wp2_with fail
 rw [← hW1]
 clear hW1 d0 d1 d2 d3 d4 d5 i0 il
 gi_loopw [31] (fun iv wr => ∃ k : Nat, k ≤ tgt.length ∧ iv = .int .i64 k ∧ Hid (Kept E W1 wr) ∧ Hid (J (k0 + k) O1 wr)) (fun iv _ => tgt.length - (Go.Mine.nI iv).toNat)
 case atStart => exact ⟨0, Nat.zero_le _, rfl, hide (Kept.refl _ _), HJ1⟩
 case round =>
  clear HJ1
  obtain ⟨k, hk, rfl, HK, HJK⟩ := hrel
  by_cases hlt : k < tgt.length
  ·obtain ⟨hIn, h9, hts, hab⟩ := HV.out wr HK.out
   obtain ⟨s, sb, so, hs, _, hsA, hsbw, c0⟩ := Sl.sc_at hts hlt
   have HLK := hide (HL.out k s hs)
   have HIN := hide hIn
   have H9 := hide h9
   have HAB := hide hab
   have HKL := hide (show k0 + k < N by have := HN.out; omega)
   have HPUT : Hid (∀ (w1 : World) (dA : Option Addr) (dC : Nat), Below wr.heap.size wr w1 → Sl ic 1 w1 dA dC (span xf xu) → Calls Tryz.prog 52 #[.string s, .slice dA (span xf xu).length dC, .slice A above.length c, .int .i64 xt, .pointer (some ⟨yB, 0, none⟩)] w1 fun e W' => Kept E wr W' ∧
     ∃ bb : Bool, e = .returned (.bool bb) ∧ (bb = true → J (k0 + (k + 1)) O1 W') ∧ (bb = false → Jx () O1 W')) := hide (fun w1 dA dC hb hd => by
    have hK1 : Kept E wr w1 := Kept.of_below hb
    have hIn1 := (HV.out w1 (HK.out.trans hK1)).1
    have hz := hb.size
    have hz0 := HK.out.size
    refine (put52 HJ.out HY.out s dA A dC c (span xf xu) above xt (k0 + k) O1 w1 HKL.out HLK.out hd (HAB.out.bel hb) HSN.out (by have := HSL.out; have := HAL.out; omega) hIn1.yb (HJ.out _ _ _ _ _ HJK.out (XStep.of_below hb fun b hb => .inl hb))
     (fun b hb => ⟨(HOB.out b hb).1, by have := (HOB.out b hb).2; omega⟩) (by have := HBW.out.1; omega) (fun b hb => by have := HBW.out.2; omega)).mono ?_
    rintro e W' ⟨hK2, h⟩
    refine ⟨hK1.trans (hK2.mono fun b hb => (HEB.out b).1 hb), ?_⟩
    rcases h with ⟨rfl, h⟩ | ⟨rfl, h⟩
    ·exact ⟨true, rfl, fun _ => h, fun e => (by cases e)⟩
    ·exact ⟨false, rfl, fun e => (by cases e), fun _ => h⟩)
   have eg := e52
   have HEP := hide (show E pB from (HEB.out _).2 (.inl (hIn.o.2.1)))
   have HE9 := HE9W
   cases hsA
   clear hIn h9 hts hab hs
   gi_wp2_with fail
   refine wpIn_wide.2 ?_
   refine wp_region_held_drew (S := fun w' => Kept E wr w') (by kernel_rfl) (Kept.refl E wr).drew (fun hHeld => ?_)
   (try simp only [Act.put, List.setIfInBounds_toArray, List.set_cons_zero, List.set_cons_succ])
   refine wpAnyH_take (i := 0) (v := ?_) rfl (by kernel_rfl) (by kernel_rfl) (by kernel_rfl) (fun _ _ _ h => h) (Or.inl ⟨by rfl, ?_⟩) (by assumption) ?_
   rotate_left
   ·intro w' hSw
    have m0 := (Blk.kept HIN.out.pb hSw HEP.out).cell (v := _) 0 rfl
    go_simp
    (try go_bits)
    try with_reducible rfl
   (try simp only [Act.put, List.setIfInBounds_toArray, List.set_cons_zero, List.set_cons_succ])
   refine wpAnyH_take (i := 1) (v := ?_) rfl (by kernel_rfl) (by kernel_rfl) (by kernel_rfl) (fun _ _ _ h => h) (Or.inl ⟨by rfl, ?_⟩) (by assumption) ?_
   rotate_left
   ·intro w' hSw
    go_simp
    (try go_bits)
    try with_reducible rfl
   (try simp only [Act.put, List.setIfInBounds_toArray, List.set_cons_zero, List.set_cons_succ])
   refine wpAnyH_take (i := 2) (v := ?_) rfl (by kernel_rfl) (by kernel_rfl) (by kernel_rfl) (fun _ _ _ h => h) (Or.inl ⟨by rfl, ?_⟩) (by assumption) ?_
   rotate_left
   ·intro w' hSw
    go_simp
    (try go_bits)
    try with_reducible rfl
   (try simp only [Act.put, List.setIfInBounds_toArray, List.set_cons_zero, List.set_cons_succ])
   refine wpAnyH_take (i := 3) (v := ?_) rfl (by kernel_rfl) (by kernel_rfl) (by kernel_rfl) (fun _ _ _ h => h) (Or.inl ⟨by rfl, ?_⟩) (by assumption) ?_
   rotate_left
   ·intro w' hSw
    have m0 := (Blk.kept H9.out hSw HE9.out).cell (v := .int .i64 xf) 1 rfl
    go_simp
    (try go_bits)
    try with_reducible rfl
   (try simp only [Act.put, List.setIfInBounds_toArray, List.set_cons_zero, List.set_cons_succ])
   refine wpAnyH_take (i := 4) (v := ?_) rfl (by kernel_rfl) (by kernel_rfl) (by kernel_rfl) (fun _ _ _ h => h) (Or.inl ⟨by rfl, ?_⟩) (by assumption) ?_
   rotate_left
   ·intro w' hSw
    go_simp
    (try go_bits)
    try with_reducible rfl
   (try simp only [Act.put, List.setIfInBounds_toArray, List.set_cons_zero, List.set_cons_succ])
   refine wpAnyH_take (i := 5) (v := ?_) rfl (by kernel_rfl) (by kernel_rfl) (by kernel_rfl) (fun _ _ _ h => h) (Or.inl ⟨by rfl, ?_⟩) (by assumption) ?_
   rotate_left
   ·intro w' hSw
    have m0 := (Blk.kept H9.out hSw HE9.out).cell (v := .int .i64 xu) 2 rfl
    go_simp
    (try go_bits)
    try with_reducible rfl
   (try simp only [Act.put, List.setIfInBounds_toArray, List.set_cons_zero, List.set_cons_succ])
   refine wpAnyH_take (i := 7) (v := ?_) rfl (by kernel_rfl) (by kernel_rfl) (by kernel_rfl) (fun _ _ _ h => h) (Or.inl ⟨by rfl, ?_⟩) (by assumption) ?_
   rotate_left
   ·intro w' hSw
    go_simp
    (try go_bits)
    try with_reducible rfl
   (try simp only [Act.put, List.setIfInBounds_toArray, List.set_cons_zero, List.set_cons_succ])
   refine wpAnyH_take (i := 8) (v := ?_) rfl (by kernel_rfl) (by kernel_rfl) (by kernel_rfl) (fun _ _ _ h => h) (Or.inl ⟨by rfl, ?_⟩) (by assumption) ?_
   rotate_left
   ·intro w' hSw
    go_simp
    (try go_bits)
    try with_reducible rfl
   (try simp only [Act.put, List.setIfInBounds_toArray, List.set_cons_zero, List.set_cons_succ])
   refine wpAnyH_take (i := 9) (v := ?_) rfl (by kernel_rfl) (by kernel_rfl) (by kernel_rfl) (fun _ _ _ h => h) (Or.inl ⟨by rfl, ?_⟩) (by assumption) ?_
   rotate_left
   ·intro w' hSw
    have m0 := (Blk.kept H9.out hSw HE9.out).cell (v := .int .i64 xt) 5 rfl
    go_simp
    (try go_bits)
    try with_reducible rfl
   (try simp only [Act.put, List.setIfInBounds_toArray, List.set_cons_zero, List.set_cons_succ])
   refine wpAnyH_ready (rs := [6]) (by kernel_rfl) (by simp) (AllReadyH.cons rfl (fun K hK => ?_) AllReadyH.nil)
   go_simp
   refine (K57.out _).mono ?_
   rintro e w3 ⟨v3, rfl, ho3, hb3⟩
   replace hb3 := kcall (Below.refl wr.heap.size wr).drew hb3
   obtain ⟨A3, c3, rfl, hs3⟩ := ho3.sl
   (try go_simp)
   refine hK.out _ _ (Kept.of_below hb3) (fun hHeld3 => ?_)
   clear hK K
   (try simp only [Act.put, List.setIfInBounds_toArray, List.set_cons_zero, List.set_cons_succ])
   refine wpAnyH_ready (rs := [10]) (by kernel_rfl) (by simp) (AllReadyH.cons rfl (fun K hK => ?_) AllReadyH.nil)
   go_simp
   refine (HPUT.out w3 A3 c3 hb3 hs3).mono ?_
   rintro e w4 ⟨hk4, bb, rfl, hj4⟩
   (try go_simp)
   refine hK.out _ _ hk4 (fun hHeld4 => ?_)
   clear hK K
   (try simp only [Act.put, List.setIfInBounds_toArray, List.set_cons_zero, List.set_cons_succ])
   refine wpAnyH_ready (rs := [11]) (by kernel_rfl) (by simp) (AllReadyH.cons rfl (fun K hK => ?_) AllReadyH.nil)
   go_simp
   refine hK.out _ _ hk4 (fun hHeld5 => ?_)
   clear hK K
   (try simp only [Act.put, List.setIfInBounds_toArray, List.set_cons_zero, List.set_cons_succ])
   refine wpAnyH_done (by kernel_rfl) ?_ _
   have HKN := hide (HK.out.trans hk4)
   have HJ4 := hide hj4
   clear hk4 hj4 hb3 hs3 ho3 HPUT K57 HK HJK HIN H9 HAB HLK
   cases bb
   ·have HJ5 := hide (HJX.out _ _ _ _ _ (HJ4.out.2 rfl) (XStep.drop w4 HDROP.out))
    have HK5 := hide (HFIN.out _ HKN.out)
    gi_wp2
    refine bodyPost_ret (v := .bool false) (by simp [results, Tryz.results56, go_sem]) rfl ?_
    exact ⟨HK5.out, .inr ⟨rfl, HJ5.out⟩⟩
   ·have HJ5 := hide (HJ4.out.1 rfl)
    gi_wp2
    go_roundw
    case rel => exact ⟨k + 1, by omega, by go_num, HKN, HJ5⟩
    case measure => simp [Go.Mine.nI]; omega
  ·obtain rfl : k = tgt.length := by omega
   have HK2 := hide (HFIN.out _ HK.out)
   have HJ2 := hide (HJ.out _ _ _ _ _ HJK.out (XStep.drop wr HDROP.out))
   clear HK HJK
   gi_wp2
   refine bodyPost_ret (v := .bool true) (by simp [results, Tryz.results56, go_sem]) rfl ?_
   exact ⟨HK2.out, .inl ⟨rfl, HJ2.out⟩⟩
end
end Go.Proofs.YtkfdafeonhnloaaGreatDoor
namespace Go.Mine.C
open Go.RowKit Go.Mine
section
variable {rules : List RuleM} {items : List ItemM} {n : Nat}
theorem lits_len : ∀ (ps : List PartM) (ks : List Tree) (i : Int), (litsGo ps ks i).length ≤ ps.length
 | [], _, _ => by simp [litsGo]
 | p :: ps, ks, i => by
  cases hp : p.isCat
  ·rw [lits_text hp, List.length_cons, List.length_cons]
   have := lits_len ps ks (i + 1)
   omega
  ·cases ks with
   | nil =>
    have : litsGo (p :: ps) [] i = [] := by rw [litsGo, if_pos hp]
    rw [this]; simp
   | cons k ks =>
    rw [lits_cat hp, List.length_cons]
    have := lits_len ps ks (litsGo.untilT k)
    omega
theorem cov_each : ∀ {ps : List PartM} {ks : List Tree} {f u : Int}, Cov rules items n ps ks f u → f ≤ u ∧ ps.countP PartM.isCat = ks.length ∧ ∀ k ∈ ks, ∃ c f' u', WF rules items n k c f' u' ∧ f ≤ f' ∧ u' ≤ u
 | [], ks, f, u, h => by
  cases h
  exact ⟨Int.le_refl _, rfl, by simp⟩
 | p :: ps, ks, f, u, h => by
  cases h with
  | text hp h' =>
   obtain ⟨h1, h2, h3⟩ := cov_each h'
   refine ⟨by omega, by rw [List.countP_cons_of_neg (by simp [hp]), h2], fun k hk => ?_⟩
   obtain ⟨c, f', u', e1, e2, e3⟩ := h3 k hk
   exact ⟨c, f', u', e1, by omega, e3⟩
  | cat hp hk h' =>
   obtain ⟨h1, h2, h3⟩ := cov_each h'
   have hlt := WF.lt hk
   refine ⟨by omega, by rw [List.countP_cons_of_pos (by simp [hp]), h2, List.length_cons], fun k' hk' => ?_⟩
   rcases List.mem_cons.1 hk' with rfl | hk'
   ·exact ⟨_, _, _, hk, Int.le_refl _, h1⟩
   ·obtain ⟨c, f', u', e1, e2, e3⟩ := h3 k' hk'
    exact ⟨c, f', u', e1, by omega, e3⟩
theorem TreeR.until_ {X : Nat → Prop} {w : World} {h : TreeH} {t : Tree} (hr : TreeR X w h t) : h.until_ = litsGo.untilT t := by
 cases hr <;> rfl
end
def kidM (parts : List PartM) (kids : List TreeH) (i : Nat) : Int → Option Value := fun j => if 0 ≤ j ∧ j < (i : Int) then (match parts[j.toNat]? with
 | none => none
 | some p => if p.isCat = true then (kids[(parts.take j.toNat).countP PartM.isCat]?).map treeV else none) else none
theorem kidM_zero (parts : List PartM) (kids : List TreeH) : kidM parts kids 0 = fun _ => none := by
 funext j
 unfold kidM
 rw [if_neg (by omega)]
theorem kidM_text {parts : List PartM} {kids : List TreeH} {i : Nat} {p : PartM} (h : parts[i]? = some p) (hp : p.isCat = false) : kidM parts kids (i + 1) = kidM parts kids i := by
 funext j
 unfold kidM
 by_cases e : j = (i : Int)
 ·subst e
  rw [if_pos (by omega), if_neg (by omega), Int.toNat_natCast, h]
  simp [hp]
 ·by_cases h1 : 0 ≤ j ∧ j < (i : Int)
  ·rw [if_pos h1, if_pos (by omega)]
  ·rw [if_neg h1, if_neg (by omega)]
theorem kidM_cat {parts : List PartM} {kids : List TreeH} {i : Nat} {p : PartM} (h : parts[i]? = some p) (hp : p.isCat = true) {x : TreeH} (hx : kids[(parts.take i).countP PartM.isCat]? = some x) : kidM parts kids (i + 1) = updG (kidM parts kids i) (i : Int) (treeV x) := by
 funext j
 unfold updG
 by_cases e : j = (i : Int)
 ·subst e
  rw [if_pos rfl]
  unfold kidM
  rw [if_pos (by omega), Int.toNat_natCast, h]
  simp [hp, hx]
 ·rw [if_neg e]
  unfold kidM
  by_cases h1 : 0 ≤ j ∧ j < (i : Int)
  ·rw [if_pos h1, if_pos (by omega)]
  ·rw [if_neg h1, if_neg (by omega)]
theorem kidM_at {parts : List PartM} {kids : List TreeH} {j : Int} {p : PartM} (h0 : 0 ≤ j) (h : parts[j.toNat]? = some p) (hp : p.isCat = true) {x : TreeH} (hx : kids[(parts.take j.toNat).countP PartM.isCat]? = some x) : kidM parts kids parts.length j = some (treeV x) := by
 have := (List.getElem?_eq_some_iff.1 h).1
 unfold kidM
 rw [if_pos (by omega), h]
 simp [hp, hx]
theorem kidM_none {parts : List PartM} {kids : List TreeH} {i : Nat} : kidM parts kids i (i : Int) = none := by
 unfold kidM
 rw [if_neg (by omega)]
theorem count_take {ps : List PartM} {i : Nat} {p : PartM} (h : ps[i]? = some p) : (ps.take (i + 1)).countP PartM.isCat = (ps.take i).countP PartM.isCat + if p.isCat = true then 1 else 0 := by
 rw [take_of_get h, List.countP_append]
 simp [List.countP_cons]
theorem count_lt {ps : List PartM} {i : Nat} {p : PartM} (h : ps[i]? = some p) (hp : p.isCat = true) : (ps.take i).countP PartM.isCat < ps.countP PartM.isCat := by
 have h1 := count_take h
 rw [if_pos hp] at h1
 have h2 : (ps.take (i + 1)).countP PartM.isCat ≤ ps.countP PartM.isCat := by
  conv => rhs; rw [← List.take_append_drop (i + 1) ps, List.countP_append]
  omega
 omega
def giveF (rules : List RuleM) (items : List ItemM) (n : Nat) (parts : List PartM) (ks : List Tree) (f u : Int) (above : List Int) (y : GiveM) : List TargM :=
 if y.text.size = 0 then (match kidAt parts ks y.part.toNat with
  | none => []
  | some k => walkF rules items n k (above ++ litsGo parts ks f)) else [targ y.text (span f u) above (-1)]
theorem walkF_node {rules : List RuleM} {items : List ItemM} {n i : Nat} {r : RuleM} {f u : Int} {ks : List Tree} {above : List Int} (h : rules[i]? = some r) : walkF rules items (n + 1) (.node i f u ks) above = r.gives.flatMap (giveF rules items n r.parts ks f u above) := by
 simp only [walkF, h]
 rfl
theorem walkF_leaf {rules : List RuleM} {items : List ItemM} {n i : Nat} {x : ItemM} {f u : Int} {above : List Int} (h : items[i]? = some x) : walkF rules items (n + 1) (.leaf i f u) above = x.target.map fun s => targ s (span x.from_ x.until_) above x.term := by
 simp only [walkF, h]
end Go.Mine.C
namespace Go.Proofs.YtkfdafeonhnloaaGreatDoor
open Go.RowKit Go.Shelf Go.Mine Go.Mine.C
open Go.Maps in
theorem keyI3 : KeyG Tryz.prog 3 (Value.int .i64) Go.Mine.kI I64 := ⟨int_keyed Tryz.underlying3, fun h => keyOf_int_mk Tryz.underlying3 h.wf, fun _ _ e => by
 unfold Go.Mine.kI at e
 injection e⟩
def WalkSpec (gB pB iB wB yB lp N base : Nat) (g : GramH) (iA : Option Addr) (iC : Nat) (items : List ItemH) (w0 : World) (L : List TargM) (J : Nat → (Nat → Prop) → World → Prop) (Jx : Unit → (Nat → Prop) → World → Prop) (n : Nat) : Prop :=
 ∀ (h : TreeH) (t : Tree) (cat f u : Int) (above : List Int) (A : Option Addr) (c k0 : Nat) (O : Nat → Prop) (W : World),
  WF (g.rules.map RuleH.m) (items.map ItemH.m) n t cat f u → 0 ≤ f → u ≤ 16 → TreeR (fun _ => False) w0 h t → above.length + 4 * n ≤ 100000 →
  k0 + (walkF (g.rules.map RuleH.m) (items.map ItemH.m) n t above).length ≤ N → (∀ j s, (walkF (g.rules.map RuleH.m) (items.map ItemH.m) n t above)[j]? = some s → L[k0 + j]? = some s) →
  Sl ic 1 W A c above → (∀ a, A = some a → above ≠ [] → O a.block ∨ a.block < w0.heap.size) → WkIn gB pB iB wB yB lp g iA items.length iC w0 base O W → J k0 O W → (∀ b, O b → base ≤ b ∧ b < W.heap.size) →
  Calls Tryz.prog 56 #[treeV h, .slice A above.length c, .pointer (some ⟨iB, 0, none⟩), .pointer (some ⟨pB, 0, none⟩), .pointer (some ⟨gB, 0, none⟩), .pointer (some ⟨wB, 0, none⟩)] W fun e W' => Kept (fun b => O b ∨ b < w0.heap.size) W W' ∧
   ((e = .returned (.bool true) ∧ J (k0 + (walkF (g.rules.map RuleH.m) (items.map ItemH.m) n t above).length) O W') ∨ (e = .returned (.bool false) ∧ Jx () O W'))
structure OwnIn (A : Option Addr) (above lits : List Int) (b13 : Nat) (W4 : World) (k : Nat) (O : Nat → Prop) (W : World) : Prop where
 ex : ∃ v, Bx O W b13 31 v ∧ ((k = 0 ∧ v = .slice A above.length above.length) ∨ (0 < k ∧ OwnO ic 1 3 O W W4.heap.size v (above ++ lits.take k)))
 but : KeptBut (fun b => b = b13) W4 W
 own : ∀ b, O b → W4.heap.size ≤ b
theorem ownIn_step {A : Option Addr} {above lits : List Int} {b13 : Nat} {W4 : World} : XStable (OwnIn A above lits b13 W4) := by
 rintro k O O' W W' ⟨⟨v, h1, h2⟩, h3, h4⟩ s
 have hz := h3.size
 refine ⟨⟨v, XStep.bx h1 s, ?_⟩, h3.step s (fun x hx => .inr (h4 x hx)), fun b hb => ?_⟩
 ·rcases h2 with h | ⟨h, h'⟩
  ·exact .inl h
  ·exact .inr ⟨h, h'.gstep s⟩
 ·rcases s.owns b hb with h | h
  ·exact h4 b h
  ·omega
end Go.Proofs.YtkfdafeonhnloaaGreatDoor
