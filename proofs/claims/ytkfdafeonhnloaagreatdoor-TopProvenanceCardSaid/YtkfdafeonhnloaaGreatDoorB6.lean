/-
 tags: the tagger as it lies in memory; the iterator of a term.
-/
import Derived.Test.YtkfdafeonhnloaaGreatDoorGM15
import Derived.Test.YtkfdafeonhnloaaGreatDoorA8
import Derived.Deep.RegionHeld3
namespace Go.Mine.C
open Go.RowKit Go.Mine
def joinSp (l : List Str) : Str := ⟨(Lib.join (l.map (·.data.toList)) [32]).toArray⟩
abbrev SMap := Str → Option TermH
def smV (m : SMap) : Str → Option Value := fun k => (m k).map termV
def tagCs (g : GramH) (mb : Nat) (wA : Option Addr) (wC n : Nat) : Array Value := #[.string g.name, .slice g.cA g.cats.length g.cC, .string g.start, .int .i64 g.startNo, .slice g.eA g.entries.length g.eC, .slice g.rA g.rules.length g.rC, .map (some mb), .slice wA n wC]
structure TagIn (wI : World) (tm : SMap) (mb : Nat) (W : World) : Prop where
 low : ∀ b, b < wI.heap.size → W.heap[b]? = wI.heap[b]?
 size : wI.heap.size ≤ W.heap.size
 map : ∃ n cnt, MapG Go.Proofs.Tryz.prog 9 litS okS W mb n (smV tm) cnt
structure TagC (wI : World) (g : GramH) (wA : Option Addr) (wC : Nat) (words : List Str) (tm : SMap) : Prop where
 gram : GramOk wI g
 wsl : Sl sc 1 wI wA wC words
 word : ∀ s ∈ words, wordB s = true
 term : ∀ s x, tm s = some x → TermOk wI x
theorem TagIn.sl {α : Type} {f : α → List Value} {sz : Nat} {wI W : World} {tm : SMap} {mb : Nat} {A : Option Addr} {c : Nat} {l : List α} (h : TagIn wI tm mb W) (hs : Sl f sz wI A c l) : Sl f sz W A c l :=
 hs.keep (fun a _ _ hlt => h.low _ hlt) h.size
theorem TagIn.bel {wI W W' : World} {tm : SMap} {mb : Nat} (h : TagIn wI tm mb W) (hb : Below W.heap.size W W') : TagIn wI tm mb W' := by
 obtain ⟨n, cnt, hm⟩ := h.map
 exact ⟨fun b hlt => (hb.block b (Nat.lt_of_lt_of_le hlt h.size)).trans (h.low b hlt), Nat.le_trans h.size hb.size, ⟨n, cnt, hm.bel hb⟩⟩
theorem TagIn.same {wI W W' : World} {tm : SMap} {mb : Nat} (h : TagIn wI tm mb W) (hz : W.heap.size ≤ W'.heap.size) (hl : ∀ b, b < wI.heap.size → W'.heap[b]? = W.heap[b]?) (hm : W'.heap[mb]? = W.heap[mb]?) : TagIn wI tm mb W' := by
 obtain ⟨n, cnt, h2⟩ := h.map
 exact ⟨fun b hlt => (hl b hlt).trans (h.low b hlt), Nat.le_trans h.size hz, ⟨n, cnt, h2.heap hm⟩⟩
def termH (tm : SMap) (cats words : List Str) (i many : Nat) : List ItemH :=
 if words.length < i + many then [] else match tm (joinSp ((words.drop i).take many)) with
  | none => []
  | some x => if 0 ≤ idxL cats x.cat then [⟨idxL cats x.cat, i, (i : Int) + many, 0, x.tA, x.tC, x.target, x.no⟩] else []
def okItem (base : Nat) (O : Nat → Prop) (W : World) (h : ItemH) : Prop := SlT sc 1 9 base O W h.tA h.tC h.target
theorem okItem_ok (base : Nat) : OkP 9 base (okItem base) := ⟨fun h hz hk => SlT.other h hz hk, fun h s => SlT.step h s, fun h ho => SlT.more h (by decide) ho⟩
theorem joinSp_size {l : List Str} (h : ∀ s ∈ l, wordB s = true) (hl : l.length ≤ 16) : (Lib.join (l.map (·.data.toList)) [32]).length ≤ 2000 := by
 have h1 : ∀ x ∈ l.map (·.data.toList), x.length ≤ 64 := fun x hx => by
  obtain ⟨s, hs, rfl⟩ := List.mem_map.1 hx
  have := word_size (h s hs)
  simpa using this
 have h2 : ∀ (m : List (List UInt8)), (∀ x ∈ m, x.length ≤ 64) → (Lib.join m [32]).length ≤ m.length * 65 := fun m hm => by
  cases m with
  | nil => simp [Lib.join_nil]
  | cons x m =>
   have a1 := hm x (by simp)
   have a2 := lens_le 64 m (fun z hz => hm z (by simp [hz]))
   have e1 : (Lib.join (x :: m) [32]).length = x.length + (1 * m.length + Lib.lens m) := by rw [Lib.join_cons, List.length_append, Lib.joinTail_length]; rfl
   rw [e1, List.length_cons]; omega
 have := h2 _ h1
 rw [List.length_map] at this
 omega
end Go.Mine.C
namespace Go.Proofs.YtkfdafeonhnloaaGreatDoor
open Go.RowKit Go.Shelf Go.Mine Go.Mine.C
attribute [local go_sem] Oper.semAt_some
theorem at_q {Q : Exit → Act → World → Prop} {a : Act} {w0 : World} (S : World → Prop) (h0 : S w0) (h : ∀ w3, S w3 → Q .normal a w3) : Q .normal a w0 := h w0 h0
theorem itemLow {wI W : World} {tm : SMap} {mb : Nat} (hT : TagIn wI tm mb W) {a b c d e : Int} {A : Option Addr} {n : Nat} {l : List Str} (h : Sl sc 1 wI A n l) : okItem wI.heap.size (fun _ => False) W ⟨a, b, c, d, A, n, l, e⟩ :=
 ⟨⟨hT.sl h, fun _ _ _ h => h⟩, fun p hp hn => .inl (by
  obtain ⟨q, off, e, hq, _⟩ := h.cells hn
  dsimp only at hp
  rw [hp] at e; cases e; exact hq)⟩
set_option maxRecDepth 100000 in
set_option maxHeartbeats 8000000 in
theorem term77 (wI : World) (g : GramH) (wA : Option Addr) (wC : Nat) (words : List ByteArray) (tm : SMap) (mb pi pm pt i many : Nat) (w0 : World) (R : Nat → Prop) (hC : TagC wI g wA wC words tm) (hT : TagIn wI tm mb w0)
  (hpi : Blk w0 pi 3 #[.int .i64 i]) (hpm : Blk w0 pm 3 #[.int .i64 many]) (hpt : Blk w0 pt 83 (tagCs g mb wA wC words.length)) (hRp : R pi ∧ R pm ∧ R pt ∧ R mb) (hRl : ∀ b, b < wI.heap.size → R b) (hi : i ≤ 16) (hm : 1 ≤ many ∧ many ≤ 17) (hw : words.length ≤ 16) :
  IterG Tryz.prog 77 #[.pointer (some ⟨pi, 0, none⟩), .pointer (some ⟨pm, 0, none⟩), .pointer (some ⟨pt, 0, none⟩)] (termH tm g.cats words i many).length (Gives itemV (fun k h => (termH tm g.cats words i many)[k]? = some h) (okItem wI.heap.size)) none (fun _ => False) R w0 := by
 intro n lp J Jx W hwW hR hJ hJx hY h0
 have hRb : ∀ b, R b → W.heap[b]? = w0.heap[b]? := fun b hb => (hR b (.inr hb)).2
 have HTW := hide (hT.same hwW (fun b hb => hRb b (hRl b hb)) (hRb mb hRp.2.2.2))
 have PI : Blk W pi 3 #[.int .i64 i] := ⟨Nat.lt_of_lt_of_le hpi.lt hwW, (hRb pi hRp.1).trans hpi.at_⟩
 have PM : Blk W pm 3 #[.int .i64 many] := ⟨Nat.lt_of_lt_of_le hpm.lt hwW, (hRb pm hRp.2.1).trans hpm.at_⟩
 have PT : Blk W pt 83 (tagCs g mb wA wC words.length) := ⟨Nat.lt_of_lt_of_le hpt.lt hwW, (hRb pt hRp.2.2.1).trans hpt.at_⟩
 have HY := hide @hY
 have HJ := hide @hJ
 have HC := hide hC
 have H0 := hide h0
 have HPI := hide PI
 have HPM := hide PM
 have HPT := hide PT
 have x0 := PI.cell (v := .int .i64 i) 0 rfl
 have x1 := PM.cell (v := .int .i64 many) 0 rfl
 have x7 := PT.cell (v := .slice wA words.length wC) 7 rfl
 have l0 := PI.lt
 have l1 := PM.lt
 have l2 := PT.lt
 clear hY hJ hC h0 PI PM PT hR hT hpi hpm hpt hRp hRl hRb hJx
 have hwl := HC.out.wsl.le
 have hwm := HC.out.wsl.max
 by_cases hfit : words.length < i + many
 ·have e : termH tm g.cats words i many = [] := by unfold termH; rw [if_pos hfit]
  rw [e] at HY ⊢
  have g1 : decide ((words.length : Int) < (i : Int) + many) = true := decide_eq_true (by omega)
  clear hfit e
  refine callsIn_of_wp Tryz.func77 rfl trivial ?_ rfl
  simp only [Tryz.ntmps77]
  simp only [List.size_toArray, List.length_cons, List.length_nil, Nat.reduceAdd, Nat.reduceSub, Array.replicate_succ, Array.replicate_zero, List.push_toArray, List.append_toArray, List.nil_append, List.cons_append]
  gi_wp2
  refine bodyPost_ret (results_none rfl _ _ _) rfl ?_
  exact ⟨fun _ => False, fun b hb => hb.elim, Nat.le_refl _, .inl ⟨⟨_, rfl⟩, H0.out⟩⟩
 ·have g1 : decide ((words.length : Int) < (i : Int) + many) = false := decide_eq_false (by omega)
  refine callsIn_of_wp Tryz.func77 rfl trivial ?_ rfl
  simp only [Tryz.ntmps77]
  simp only [List.size_toArray, List.length_cons, List.length_nil, Nat.reduceAdd, Nat.reduceSub, Array.replicate_succ, Array.replicate_zero, List.push_toArray, List.append_toArray, List.nil_append, List.cons_append]
  gi_wp2_with fail
  have HWS := HTW.out.sl HC.out.wsl
  obtain ⟨b, off, rfl, hbw, hcl⟩ := HWS.addr (by intro e; rw [e] at hfit; simp at hfit; omega)
  have hwr : IntKind.i64.wrap ((i : Int) + many) = (i : Int) + many := by rw [IntKind.wrap_i64]; omega
  have gs1 : (i : Int) ≤ (i : Int) + many := by omega
  have gs2 : (i : Int) + many ≤ (wC : Int) := by omega
  have gs3 : wC ≠ i := by omega
  have gs4 : ((i : Int) + many).toNat - i = many := by omega
  have hsub : ((words.drop i).take many).length = many := by rw [List.length_take, List.length_drop]; omega
  have hsz := joinSp_size (l := (words.drop i).take many) (fun s hs => HC.out.word s (List.mem_of_mem_drop (List.mem_of_mem_take hs))) (by omega)
  have HKJ : Hid (∀ W', Below W.heap.size W W' → Calls Tryz.prog 33 #[.slice (some ⟨b, off + i, none⟩) many (wC - i), .string ⟨#[32]⟩] W' fun e w' => e = .returned (.string (joinSp ((words.drop i).take many))) ∧ Below W'.heap.size W' w') := hide (fun W' hW' => by
   have := sh_strings_Join b (off + i) (wC - i) ((words.drop i).take many) ⟨#[32]⟩ W' (fun j y hj => by
    have h1 : words[i + j]? = some y := by
     rw [List.getElem?_take] at hj
     split at hj
     ·rwa [List.getElem?_drop] at hj
     ·cases hj
    have h2 := hcl (i + j) y h1 0 (.string y) rfl
    rw [hW'.cell (p := ⟨b, off + i + j, none⟩) hbw]
    have e : off + ((i + j) * 1 + 0) = off + i + j := by omega
    simpa [e, Nat.add_assoc] using h2) (Nat.lt_of_lt_of_le hbw hW'.size) (by omega) (by omega) (by
    have e : (ByteArray.mk #[32]).data.toList = [32] := rfl
    rw [e]; exact Nat.le_trans hsz (by decide))
   rw [hsub] at this
   exact this)
  have hoks : okS (joinSp ((words.drop i).take many)) := by
   have e : (joinSp ((words.drop i).take many)).size = (Lib.join (((words.drop i).take many).map (·.data.toList)) [32]).length := by rw [Lib.size_eq]; rfl
   unfold okS; rw [e]; exact Nat.le_trans hsz (by decide)
  have HLK : Hid (∀ W', Below W.heap.size W W' → (Instr.lookup 81 (.map (some mb)) (.string (joinSp ((words.drop i).take many))) true).run Tryz.prog W' = .ok (.tuple #[(smV tm (joinSp ((words.drop i).take many))).getD termZ, .bool (smV tm (joinSp ((words.drop i).take many))).isSome]) W') := hide (fun W' hW' => by
   obtain ⟨n, cnt, h2⟩ := (HTW.out.bel hW').map
   exact h2.look_ok keyS Tryz.underlying81 (Tryz.zeroValue85 W') hoks)
  have HIT := hide (show termH tm g.cats words i many = _ from by unfold termH; rw [if_neg hfit])
  have HTM := hide (fun x h => HC.out.term (joinSp ((words.drop i).take many)) x h)
  unfold smV at HLK
  clear hsub hsz hoks hcl HWS hfit
  generalize joinSp ((words.drop i).take many) = s at *
  cases hx : tm s with
  | none =>
   rw [hx] at HLK HIT
   simp only [Option.map_none, Option.getD_none, Option.isSome_none, termZ] at HLK
   refine wpIn_wide.2 ?_
   refine wp_region_held_drew (S := fun w' => Below W.heap.size W w') (by kernel_rfl) (Below.refl _ _).drew (fun hHeld => ?_)
   refine wpAnyH_take (i := 0) (v := ?_) rfl (by kernel_rfl) (by kernel_rfl) (by kernel_rfl) (fun _ _ _ h => h) (Or.inl ⟨by rfl, ?_⟩) (by assumption) ?_
   rotate_left
   ·intro w' hSw
    go_simp
    try with_reducible rfl
   (try simp only [Act.put, List.setIfInBounds_toArray, List.set_cons_zero, List.set_cons_succ])
   refine wpAnyH_take (i := 1) (v := ?_) rfl (by kernel_rfl) (by kernel_rfl) (by kernel_rfl) (fun _ _ _ h => h) (Or.inl ⟨by rfl, ?_⟩) (by assumption) ?_
   rotate_left
   ·intro w' hSw
    have m0 := (HPT.out.bel hSw).cell (v := .map (some mb)) 6 rfl
    go_simp
    try with_reducible rfl
   (try simp only [Act.put, List.setIfInBounds_toArray, List.set_cons_zero, List.set_cons_succ])
   refine wpAnyH_take (i := 2) (v := ?_) rfl (by kernel_rfl) (by kernel_rfl) (by kernel_rfl) (fun _ _ _ h => h) (Or.inl ⟨by rfl, ?_⟩) (by assumption) ?_
   rotate_left
   ·intro w' hSw
    go_simp
    try with_reducible rfl
   (try simp only [Act.put, List.setIfInBounds_toArray, List.set_cons_zero, List.set_cons_succ])
   refine wpAnyH_take (i := 3) (v := ?_) rfl (by kernel_rfl) (by kernel_rfl) (by kernel_rfl) (fun _ _ _ h => h) (Or.inl ⟨by rfl, ?_⟩) (by assumption) ?_
   rotate_left
   ·intro w' hSw
    have m0 := (HPT.out.bel hSw).cell (v := .slice (some ⟨b, off, none⟩) words.length wC) 7 rfl
    go_simp
    try with_reducible rfl
   (try simp only [Act.put, List.setIfInBounds_toArray, List.set_cons_zero, List.set_cons_succ])
   refine wpAnyH_take (i := 4) (v := ?_) rfl (by kernel_rfl) (by kernel_rfl) (by kernel_rfl) (fun _ _ _ h => h) (Or.inl ⟨by rfl, ?_⟩) (by assumption) ?_
   rotate_left
   ·intro w' hSw
    have m0 := (HPI.out.bel hSw).cell (v := .int .i64 i) 0 rfl
    go_simp
    try with_reducible rfl
   (try simp only [Act.put, List.setIfInBounds_toArray, List.set_cons_zero, List.set_cons_succ])
   refine wpAnyH_take (i := 5) (v := ?_) rfl (by kernel_rfl) (by kernel_rfl) (by kernel_rfl) (fun _ _ _ h => h) (Or.inl ⟨by rfl, ?_⟩) (by assumption) ?_
   rotate_left
   ·intro w' hSw
    have m0 := (HPI.out.bel hSw).cell (v := .int .i64 i) 0 rfl
    go_simp
    try with_reducible rfl
   (try simp only [Act.put, List.setIfInBounds_toArray, List.set_cons_zero, List.set_cons_succ])
   refine wpAnyH_take (i := 6) (v := ?_) rfl (by kernel_rfl) (by kernel_rfl) (by kernel_rfl) (fun _ _ _ h => h) (Or.inl ⟨by rfl, ?_⟩) (by assumption) ?_
   rotate_left
   ·intro w' hSw
    have m0 := (HPM.out.bel hSw).cell (v := .int .i64 many) 0 rfl
    go_simp
    try with_reducible rfl
   (try simp only [Act.put, List.setIfInBounds_toArray, List.set_cons_zero, List.set_cons_succ])
   refine wpAnyH_take (i := 7) (v := ?_) rfl (by kernel_rfl) (by kernel_rfl) (by kernel_rfl) (fun _ _ _ h => h) (Or.inl ⟨by rfl, ?_⟩) (by assumption) ?_
   rotate_left
   ·intro w' hSw
    go_simp
    try with_reducible rfl
   (try simp only [Act.put, List.setIfInBounds_toArray, List.set_cons_zero, List.set_cons_succ])
   refine wpAnyH_take (i := 8) (v := ?_) rfl (by kernel_rfl) (by kernel_rfl) (by kernel_rfl) (fun _ _ _ h => h) (Or.inl ⟨by rfl, ?_⟩) (by assumption) ?_
   rotate_left
   ·intro w' hSw
    go_simp
    try with_reducible rfl
   (try simp only [Act.put, List.setIfInBounds_toArray, List.set_cons_zero, List.set_cons_succ])
   refine wpAnyH_ready (rs := [9, 14]) (by kernel_rfl) (by simp) (AllReadyH.cons rfl (fun K hK => ?_) (AllReadyH.cons rfl (fun K hK => ?_) AllReadyH.nil))
   ·go_simp
    refine (HKJ.out _ hHeld).mono ?_
    rintro e w3 ⟨rfl, hb3⟩
    go_wp2_with fail
    have hH3 := kcall hHeld hb3
    refine hK.out _ _ hH3 (fun hHeld => ?_)
    clear hK K
    (try simp only [Act.put, List.setIfInBounds_toArray, List.set_cons_zero, List.set_cons_succ])
    refine wpAnyH_take (i := 10) (v := ?_) rfl (by kernel_rfl) (by kernel_rfl) (by kernel_rfl) (fun _ _ _ h => h) (Or.inl ⟨by rfl, ?_⟩) (by assumption) ?_
    rotate_left
    ·intro w' hSw
     have m0 := HLK.out w' hSw
     go_simp
     try with_reducible rfl
    (try simp only [Act.put, List.setIfInBounds_toArray, List.set_cons_zero, List.set_cons_succ])
    refine wpAnyH_take (i := 11) (v := ?_) rfl (by kernel_rfl) (by kernel_rfl) (by kernel_rfl) (fun _ _ _ h => h) (Or.inl ⟨by rfl, ?_⟩) (by assumption) ?_
    rotate_left
    ·intro w' hSw
     go_simp
     try with_reducible rfl
    (try simp only [Act.put, List.setIfInBounds_toArray, List.set_cons_zero, List.set_cons_succ])
    refine wpAnyH_take (i := 12) (v := ?_) rfl (by kernel_rfl) (by kernel_rfl) (by kernel_rfl) (fun _ _ _ h => h) (Or.inl ⟨by rfl, ?_⟩) (by assumption) ?_
    rotate_left
    ·intro w' hSw
     go_simp
     try with_reducible rfl
    (try simp only [Act.put, List.setIfInBounds_toArray, List.set_cons_zero, List.set_cons_succ])
    refine wpAnyH_take (i := 13) (v := ?_) rfl (by kernel_rfl) (by kernel_rfl) (by kernel_rfl) (fun _ _ _ h => h) (Or.inl ⟨by rfl, ?_⟩) (by assumption) ?_
    rotate_left
    ·intro w' hSw
     go_simp
     try with_reducible rfl
    (try simp only [Act.put, List.setIfInBounds_toArray, List.set_cons_zero, List.set_cons_succ])
    refine wpAnyH_ready (rs := [14]) (by kernel_rfl) (by simp) (AllReadyH.cons rfl (fun K hK => ?_) AllReadyH.nil)
    go_simp
    refine hK.out _ _ (kalloc hHeld _) (fun hHeld => ?_)
    clear hK K
    (try simp only [Act.put, List.setIfInBounds_toArray, List.set_cons_zero, List.set_cons_succ])
    refine wpAnyH_ready (rs := [15]) (by kernel_rfl) (by simp) (AllReadyH.cons rfl (fun K hK => ?_) AllReadyH.nil)
    go_simp
    refine hK.out _ _ (kalloc hH3 _) (fun hHeld => ?_)
    clear hK K
    (try simp only [Act.put, List.setIfInBounds_toArray, List.set_cons_zero, List.set_cons_succ])
    refine wpAnyH_ready (rs := [16]) (by kernel_rfl) (by simp) (AllReadyH.cons rfl (fun K hK => ?_) AllReadyH.nil)
    go_simp
    refine hK.out _ _ hHeld (fun hHeld => ?_)
    clear hK K
    (try simp only [Act.put, List.setIfInBounds_toArray, List.set_cons_zero, List.set_cons_succ])
    refine wpAnyH_done (by kernel_rfl) ?_ _
    refine at_q (fun W9 => Blk W9 w3.heap.size 85 #[.int .i64 0, .int .i64 0, .int .i64 0, .int .i64 0, .slice none 0 0, .slice none 0 0, .string ⟨#[]⟩, .bool false] ∧ Below W.heap.size W W9) ⟨Blk.new w3 _ 85, kalloc hH3 _⟩ ?_
    clear hHeld hH3 hb3
    rintro W9 ⟨hBQ, hBW⟩
    have HBW := hide hBW
    have HBQ := hide hBQ
    have HJ9 := hide (HJ.out _ _ _ _ _ H0.out (XStep.of_below (O' := fun _ => False) hBW fun b hb => hb.elim))
    have K78 := hide (index78 g.cA g.cC g.cats ⟨#[]⟩ W9 ((HTW.out.bel hBW).sl HC.out.gram.cats))
    have y1 := (HPT.out.bel hBW).cell (v := .slice g.cA g.cats.length g.cC) 1 rfl
    have y6 := hBQ.cell (v := .string ⟨#[]⟩) 6 rfl
    have ql := hBQ.lt
    have ptl := (HPT.out.bel hBW).lt
    clear hBW hBQ x0 x1 x7 l0 l1 l2
    gi_wp2_with fail
    refine (callsIn_wide.2 K78.out).mono ?_
    rintro e W' ⟨rfl, rfl⟩
    replace HIT := hide (HIT.out.trans rfl : termH tm g.cats words i many = [])
    gi_wp2
    refine bodyPost_end (results_none rfl _ _ _) rfl ?_
    exact ⟨fun _ => False, fun b hb => hb.elim, HBW.out.size, .inl ⟨⟨_, rfl⟩, by rw [HIT.out]; exact HJ9.out⟩⟩
   ·go_simp
    refine hK.out _ _ (kalloc hHeld _) (fun hHeld => ?_)
    clear hK K
    (try simp only [Act.put, List.setIfInBounds_toArray, List.set_cons_zero, List.set_cons_succ])
    have hBQ0 : Blk (W.drew.alloc (.cells #[.int .i64 0, .int .i64 0, .int .i64 0, .int .i64 0, .slice none 0 0, .slice none 0 0, .string ⟨#[]⟩, .bool false] 85)) W.heap.size 85 #[.int .i64 0, .int .i64 0, .int .i64 0, .int .i64 0, .slice none 0 0, .slice none 0 0, .string ⟨#[]⟩, .bool false] := Blk.new W.drew _ 85
    refine wpAnyH_ready (rs := [9]) (by kernel_rfl) (by simp) (AllReadyH.cons rfl (fun K hK => ?_) AllReadyH.nil)
    go_simp
    refine (HKJ.out _ hHeld).mono ?_
    rintro e w3 ⟨rfl, hb3⟩
    go_wp2_with fail
    have hH3 := kcall hHeld hb3
    have hBQ := hBQ0.bel hb3
    clear hBQ0
    refine hK.out _ _ hH3 (fun hHeld => ?_)
    clear hK K
    (try simp only [Act.put, List.setIfInBounds_toArray, List.set_cons_zero, List.set_cons_succ])
    refine wpAnyH_take (i := 10) (v := ?_) rfl (by kernel_rfl) (by kernel_rfl) (by kernel_rfl) (fun _ _ _ h => h) (Or.inl ⟨by rfl, ?_⟩) (by assumption) ?_
    rotate_left
    ·intro w' hSw
     have m0 := HLK.out w' hSw
     go_simp
     try with_reducible rfl
    (try simp only [Act.put, List.setIfInBounds_toArray, List.set_cons_zero, List.set_cons_succ])
    refine wpAnyH_take (i := 11) (v := ?_) rfl (by kernel_rfl) (by kernel_rfl) (by kernel_rfl) (fun _ _ _ h => h) (Or.inl ⟨by rfl, ?_⟩) (by assumption) ?_
    rotate_left
    ·intro w' hSw
     go_simp
     try with_reducible rfl
    (try simp only [Act.put, List.setIfInBounds_toArray, List.set_cons_zero, List.set_cons_succ])
    refine wpAnyH_take (i := 12) (v := ?_) rfl (by kernel_rfl) (by kernel_rfl) (by kernel_rfl) (fun _ _ _ h => h) (Or.inl ⟨by rfl, ?_⟩) (by assumption) ?_
    rotate_left
    ·intro w' hSw
     go_simp
     try with_reducible rfl
    (try simp only [Act.put, List.setIfInBounds_toArray, List.set_cons_zero, List.set_cons_succ])
    refine wpAnyH_take (i := 13) (v := ?_) rfl (by kernel_rfl) (by kernel_rfl) (by kernel_rfl) (fun _ _ _ h => h) (Or.inl ⟨by rfl, ?_⟩) (by assumption) ?_
    rotate_left
    ·intro w' hSw
     go_simp
     try with_reducible rfl
    (try simp only [Act.put, List.setIfInBounds_toArray, List.set_cons_zero, List.set_cons_succ])
    have o0 := hBQ.cell (v := (.int .i64 0)) 0 rfl
    have o1 := hBQ.cell (v := (.int .i64 0)) 1 rfl
    have o2 := hBQ.cell (v := (.int .i64 0)) 2 rfl
    have o3 := hBQ.cell (v := (.int .i64 0)) 3 rfl
    have o4 := hBQ.cell (v := (.slice none 0 0)) 4 rfl
    have o5 := hBQ.cell (v := (.slice none 0 0)) 5 rfl
    have o6 := hBQ.cell (v := (.string ⟨#[]⟩)) 6 rfl
    have o7 := hBQ.cell (v := (.bool false)) 7 rfl
    have ol := hBQ.lt
    have ot := hBQ.thaw
    have hS8 := ((((((((hH3.setCell (p := ⟨W.heap.size, 0, none⟩) (Nat.le_refl _) (.int .i64 0)).setCell (p := ⟨W.heap.size, 1, none⟩) (Nat.le_refl _) (.int .i64 0)).setCell (p := ⟨W.heap.size, 2, none⟩) (Nat.le_refl _) (.int .i64 0)).setCell (p := ⟨W.heap.size, 3, none⟩) (Nat.le_refl _) (.int .i64 0)).setCell (p := ⟨W.heap.size, 4, none⟩) (Nat.le_refl _) (.slice none 0 0)).setCell (p := ⟨W.heap.size, 5, none⟩) (Nat.le_refl _) (.slice none 0 0)).setCell (p := ⟨W.heap.size, 6, none⟩) (Nat.le_refl _) (.string ⟨#[]⟩)).setCell (p := ⟨W.heap.size, 7, none⟩) (Nat.le_refl _) (.bool false))
    have hB8 := ((((((((hBQ.set 0 (.int .i64 0) rfl).set 1 (.int .i64 0) rfl).set 2 (.int .i64 0) rfl).set 3 (.int .i64 0) rfl).set 4 (.slice none 0 0) rfl).set 5 (.slice none 0 0) rfl).set 6 (.string ⟨#[]⟩) rfl).set 7 (.bool false) rfl)
    refine wpAnyH_ready (rs := [15]) (by kernel_rfl) (by simp) (AllReadyH.cons rfl (fun K hK => ?_) AllReadyH.nil)
    go_simp
    refine hK.out _ _ hS8 (fun hHeld => ?_)
    clear hK K
    (try simp only [Act.put, List.setIfInBounds_toArray, List.set_cons_zero, List.set_cons_succ])
    refine wpAnyH_ready (rs := [16]) (by kernel_rfl) (by simp) (AllReadyH.cons rfl (fun K hK => ?_) AllReadyH.nil)
    go_simp
    refine hK.out _ _ hHeld (fun hHeld => ?_)
    clear hK K
    (try simp only [Act.put, List.setIfInBounds_toArray, List.set_cons_zero, List.set_cons_succ])
    refine wpAnyH_done (by kernel_rfl) ?_ _
    clear o0 o1 o2 o3 o4 o5 o6 o7 ol ot
    refine at_q (fun W9 => Blk W9 W.heap.size 85 #[.int .i64 0, .int .i64 0, .int .i64 0, .int .i64 0, .slice none 0 0, .slice none 0 0, .string ⟨#[]⟩, .bool false] ∧ Below W.heap.size W W9) ⟨hB8, hS8⟩ ?_
    clear hHeld hH3 hb3 hB8 hS8 hBQ
    rintro W9 ⟨hBQ, hBW⟩
    have HBW := hide hBW
    have HBQ := hide hBQ
    have HJ9 := hide (HJ.out _ _ _ _ _ H0.out (XStep.of_below (O' := fun _ => False) hBW fun b hb => hb.elim))
    have K78 := hide (index78 g.cA g.cC g.cats ⟨#[]⟩ W9 ((HTW.out.bel hBW).sl HC.out.gram.cats))
    have y1 := (HPT.out.bel hBW).cell (v := .slice g.cA g.cats.length g.cC) 1 rfl
    have y6 := hBQ.cell (v := .string ⟨#[]⟩) 6 rfl
    have ql := hBQ.lt
    have ptl := (HPT.out.bel hBW).lt
    clear hBW hBQ x0 x1 x7 l0 l1 l2
    gi_wp2_with fail
    refine (callsIn_wide.2 K78.out).mono ?_
    rintro e W' ⟨rfl, rfl⟩
    replace HIT := hide (HIT.out.trans rfl : termH tm g.cats words i many = [])
    gi_wp2
    refine bodyPost_end (results_none rfl _ _ _) rfl ?_
    exact ⟨fun _ => False, fun b hb => hb.elim, HBW.out.size, .inl ⟨⟨_, rfl⟩, by rw [HIT.out]; exact HJ9.out⟩⟩
  | some x =>
   rw [hx] at HLK HIT HTM
   simp only [Option.map_some, Option.getD_some, Option.isSome_some, termV] at HLK
   refine wpIn_wide.2 ?_
   refine wp_region_held_drew (S := fun w' => Below W.heap.size W w') (by kernel_rfl) (Below.refl _ _).drew (fun hHeld => ?_)
   refine wpAnyH_take (i := 0) (v := ?_) rfl (by kernel_rfl) (by kernel_rfl) (by kernel_rfl) (fun _ _ _ h => h) (Or.inl ⟨by rfl, ?_⟩) (by assumption) ?_
   rotate_left
   ·intro w' hSw
    go_simp
    try with_reducible rfl
   (try simp only [Act.put, List.setIfInBounds_toArray, List.set_cons_zero, List.set_cons_succ])
   refine wpAnyH_take (i := 1) (v := ?_) rfl (by kernel_rfl) (by kernel_rfl) (by kernel_rfl) (fun _ _ _ h => h) (Or.inl ⟨by rfl, ?_⟩) (by assumption) ?_
   rotate_left
   ·intro w' hSw
    have m0 := (HPT.out.bel hSw).cell (v := .map (some mb)) 6 rfl
    go_simp
    try with_reducible rfl
   (try simp only [Act.put, List.setIfInBounds_toArray, List.set_cons_zero, List.set_cons_succ])
   refine wpAnyH_take (i := 2) (v := ?_) rfl (by kernel_rfl) (by kernel_rfl) (by kernel_rfl) (fun _ _ _ h => h) (Or.inl ⟨by rfl, ?_⟩) (by assumption) ?_
   rotate_left
   ·intro w' hSw
    go_simp
    try with_reducible rfl
   (try simp only [Act.put, List.setIfInBounds_toArray, List.set_cons_zero, List.set_cons_succ])
   refine wpAnyH_take (i := 3) (v := ?_) rfl (by kernel_rfl) (by kernel_rfl) (by kernel_rfl) (fun _ _ _ h => h) (Or.inl ⟨by rfl, ?_⟩) (by assumption) ?_
   rotate_left
   ·intro w' hSw
    have m0 := (HPT.out.bel hSw).cell (v := .slice (some ⟨b, off, none⟩) words.length wC) 7 rfl
    go_simp
    try with_reducible rfl
   (try simp only [Act.put, List.setIfInBounds_toArray, List.set_cons_zero, List.set_cons_succ])
   refine wpAnyH_take (i := 4) (v := ?_) rfl (by kernel_rfl) (by kernel_rfl) (by kernel_rfl) (fun _ _ _ h => h) (Or.inl ⟨by rfl, ?_⟩) (by assumption) ?_
   rotate_left
   ·intro w' hSw
    have m0 := (HPI.out.bel hSw).cell (v := .int .i64 i) 0 rfl
    go_simp
    try with_reducible rfl
   (try simp only [Act.put, List.setIfInBounds_toArray, List.set_cons_zero, List.set_cons_succ])
   refine wpAnyH_take (i := 5) (v := ?_) rfl (by kernel_rfl) (by kernel_rfl) (by kernel_rfl) (fun _ _ _ h => h) (Or.inl ⟨by rfl, ?_⟩) (by assumption) ?_
   rotate_left
   ·intro w' hSw
    have m0 := (HPI.out.bel hSw).cell (v := .int .i64 i) 0 rfl
    go_simp
    try with_reducible rfl
   (try simp only [Act.put, List.setIfInBounds_toArray, List.set_cons_zero, List.set_cons_succ])
   refine wpAnyH_take (i := 6) (v := ?_) rfl (by kernel_rfl) (by kernel_rfl) (by kernel_rfl) (fun _ _ _ h => h) (Or.inl ⟨by rfl, ?_⟩) (by assumption) ?_
   rotate_left
   ·intro w' hSw
    have m0 := (HPM.out.bel hSw).cell (v := .int .i64 many) 0 rfl
    go_simp
    try with_reducible rfl
   (try simp only [Act.put, List.setIfInBounds_toArray, List.set_cons_zero, List.set_cons_succ])
   refine wpAnyH_take (i := 7) (v := ?_) rfl (by kernel_rfl) (by kernel_rfl) (by kernel_rfl) (fun _ _ _ h => h) (Or.inl ⟨by rfl, ?_⟩) (by assumption) ?_
   rotate_left
   ·intro w' hSw
    go_simp
    try with_reducible rfl
   (try simp only [Act.put, List.setIfInBounds_toArray, List.set_cons_zero, List.set_cons_succ])
   refine wpAnyH_take (i := 8) (v := ?_) rfl (by kernel_rfl) (by kernel_rfl) (by kernel_rfl) (fun _ _ _ h => h) (Or.inl ⟨by rfl, ?_⟩) (by assumption) ?_
   rotate_left
   ·intro w' hSw
    go_simp
    try with_reducible rfl
   (try simp only [Act.put, List.setIfInBounds_toArray, List.set_cons_zero, List.set_cons_succ])
   refine wpAnyH_ready (rs := [9, 14]) (by kernel_rfl) (by simp) (AllReadyH.cons rfl (fun K hK => ?_) (AllReadyH.cons rfl (fun K hK => ?_) AllReadyH.nil))
   ·go_simp
    refine (HKJ.out _ hHeld).mono ?_
    rintro e w3 ⟨rfl, hb3⟩
    go_wp2_with fail
    have hH3 := kcall hHeld hb3
    refine hK.out _ _ hH3 (fun hHeld => ?_)
    clear hK K
    (try simp only [Act.put, List.setIfInBounds_toArray, List.set_cons_zero, List.set_cons_succ])
    refine wpAnyH_take (i := 10) (v := ?_) rfl (by kernel_rfl) (by kernel_rfl) (by kernel_rfl) (fun _ _ _ h => h) (Or.inl ⟨by rfl, ?_⟩) (by assumption) ?_
    rotate_left
    ·intro w' hSw
     have m0 := HLK.out w' hSw
     go_simp
     try with_reducible rfl
    (try simp only [Act.put, List.setIfInBounds_toArray, List.set_cons_zero, List.set_cons_succ])
    refine wpAnyH_take (i := 11) (v := ?_) rfl (by kernel_rfl) (by kernel_rfl) (by kernel_rfl) (fun _ _ _ h => h) (Or.inl ⟨by rfl, ?_⟩) (by assumption) ?_
    rotate_left
    ·intro w' hSw
     go_simp
     try with_reducible rfl
    (try simp only [Act.put, List.setIfInBounds_toArray, List.set_cons_zero, List.set_cons_succ])
    refine wpAnyH_take (i := 12) (v := ?_) rfl (by kernel_rfl) (by kernel_rfl) (by kernel_rfl) (fun _ _ _ h => h) (Or.inl ⟨by rfl, ?_⟩) (by assumption) ?_
    rotate_left
    ·intro w' hSw
     go_simp
     try with_reducible rfl
    (try simp only [Act.put, List.setIfInBounds_toArray, List.set_cons_zero, List.set_cons_succ])
    refine wpAnyH_take (i := 13) (v := ?_) rfl (by kernel_rfl) (by kernel_rfl) (by kernel_rfl) (fun _ _ _ h => h) (Or.inl ⟨by rfl, ?_⟩) (by assumption) ?_
    rotate_left
    ·intro w' hSw
     go_simp
     try with_reducible rfl
    (try simp only [Act.put, List.setIfInBounds_toArray, List.set_cons_zero, List.set_cons_succ])
    refine wpAnyH_ready (rs := [14]) (by kernel_rfl) (by simp) (AllReadyH.cons rfl (fun K hK => ?_) AllReadyH.nil)
    go_simp
    refine hK.out _ _ (kalloc hHeld _) (fun hHeld => ?_)
    clear hK K
    (try simp only [Act.put, List.setIfInBounds_toArray, List.set_cons_zero, List.set_cons_succ])
    refine wpAnyH_ready (rs := [15]) (by kernel_rfl) (by simp) (AllReadyH.cons rfl (fun K hK => ?_) AllReadyH.nil)
    go_simp
    refine hK.out _ _ (kalloc hH3 _) (fun hHeld => ?_)
    clear hK K
    (try simp only [Act.put, List.setIfInBounds_toArray, List.set_cons_zero, List.set_cons_succ])
    refine wpAnyH_ready (rs := [16]) (by kernel_rfl) (by simp) (AllReadyH.cons rfl (fun K hK => ?_) AllReadyH.nil)
    go_simp
    refine hK.out _ _ hHeld (fun hHeld => ?_)
    clear hK K
    (try simp only [Act.put, List.setIfInBounds_toArray, List.set_cons_zero, List.set_cons_succ])
    refine wpAnyH_done (by kernel_rfl) ?_ _
    refine at_q (fun W9 => Blk W9 w3.heap.size 85 #[.int .i64 x.no, .int .i64 x.at_, .int .i64 x.known, .int .i64 x.lang, .slice x.sA x.source.length x.sC, .slice x.tA x.target.length x.tC, .string x.cat, .bool x.gone] ∧ Below W.heap.size W W9) ⟨Blk.new w3 _ 85, kalloc hH3 _⟩ ?_
    clear hHeld hH3 hb3
    rintro W9 ⟨hBQ, hBW⟩
    have HBW := hide hBW
    have HBQ := hide hBQ
    have HJ9 := hide (HJ.out _ _ _ _ _ H0.out (XStep.of_below (O' := fun _ => False) hBW fun b hb => hb.elim))
    have K78 := hide (index78 g.cA g.cC g.cats x.cat W9 ((HTW.out.bel hBW).sl HC.out.gram.cats))
    have y1 := (HPT.out.bel hBW).cell (v := .slice g.cA g.cats.length g.cC) 1 rfl
    have y6 := hBQ.cell (v := .string x.cat) 6 rfl
    have ql := hBQ.lt
    have ptl := (HPT.out.bel hBW).lt
    clear hBW hBQ x0 x1 x7 l0 l1 l2
    gi_wp2_with fail
    refine (callsIn_wide.2 K78.out).mono ?_
    rintro e W' ⟨rfl, rfl⟩
    generalize idxL g.cats x.cat = d at *
    by_cases hd : 0 ≤ d
    ·have g5 : decide (0 ≤ d) = true := decide_eq_true hd
     replace HIT := hide (HIT.out.trans (if_pos hd))
     have c0 := (HPI.out.bel HBW.out).cell (v := .int .i64 i) 0 rfl
     have c1 := (HPM.out.bel HBW.out).cell (v := .int .i64 many) 0 rfl
     have c0l := (HPI.out.bel HBW.out).lt
     have c1l := (HPM.out.bel HBW.out).lt
     have y0 := HBQ.out.cell (v := .int .i64 x.no) 0 rfl
     have y5 := HBQ.out.cell (v := .slice x.tA x.target.length x.tC) 5 rfl
     have HIO := hide (show okItem wI.heap.size (fun _ => False) W9 ⟨d, i, (i : Int) + many, 0, x.tA, x.tC, x.target, x.no⟩ from itemLow (HTW.out.bel HBW.out) (HTM.out x rfl).target)
     obtain ⟨fn, tmps, assign, body, hyy, hRR⟩ := HY.out 0 #[itemV ⟨d, i, (i : Int) + many, 0, x.tA, x.tC, x.target, x.no⟩] (fun _ => False) W9 (by rw [HIT.out]; exact Nat.one_pos) ⟨_, rfl, by rw [HIT.out]; rfl, HIO.out⟩ HJ9.out (fun b hb => hb.elim) HBW.out.size
     (try simp only [itemV] at hRR hyy)
     replace hRR := hide hRR
     clear hd HY HIO
     gi_wp2_with fail
     refine hRR.out.mono ?_
     rintro e W' ⟨hK, (⟨rfl, hj'⟩ | ⟨rfl, hjx⟩)⟩
     ·have HKZ := hide (Nat.le_trans HBW.out.size hK.size)
      have HJ' := hide hj'
      clear hK hj'
      gi_wp2
      refine bodyPost_end (results_none rfl _ _ _) rfl ?_
      exact ⟨fun _ => False, fun b hb => hb.elim, HKZ.out, .inl ⟨⟨_, rfl⟩, by rw [HIT.out]; exact HJ'.out⟩⟩
     ·have HKZ := hide (Nat.le_trans HBW.out.size hK.size)
      have HJ' := hide hjx
      clear hK hjx
      gi_wp2
      refine bodyPost_end (results_none rfl _ _ _) rfl ?_
      exact ⟨fun _ => False, fun b hb => hb.elim, HKZ.out, .inr ⟨⟨_, rfl⟩, HJ'.out⟩⟩
    ·have g5 : decide (0 ≤ d) = false := decide_eq_false hd
     replace HIT := hide (HIT.out.trans (if_neg hd))
     clear hd HY
     gi_wp2
     refine bodyPost_end (results_none rfl _ _ _) rfl ?_
     exact ⟨fun _ => False, fun b hb => hb.elim, HBW.out.size, .inl ⟨⟨_, rfl⟩, by rw [HIT.out]; exact HJ9.out⟩⟩
   ·go_simp
    refine hK.out _ _ (kalloc hHeld _) (fun hHeld => ?_)
    clear hK K
    (try simp only [Act.put, List.setIfInBounds_toArray, List.set_cons_zero, List.set_cons_succ])
    have hBQ0 : Blk (W.drew.alloc (.cells #[.int .i64 0, .int .i64 0, .int .i64 0, .int .i64 0, .slice none 0 0, .slice none 0 0, .string ⟨#[]⟩, .bool false] 85)) W.heap.size 85 #[.int .i64 0, .int .i64 0, .int .i64 0, .int .i64 0, .slice none 0 0, .slice none 0 0, .string ⟨#[]⟩, .bool false] := Blk.new W.drew _ 85
    refine wpAnyH_ready (rs := [9]) (by kernel_rfl) (by simp) (AllReadyH.cons rfl (fun K hK => ?_) AllReadyH.nil)
    go_simp
    refine (HKJ.out _ hHeld).mono ?_
    rintro e w3 ⟨rfl, hb3⟩
    go_wp2_with fail
    have hH3 := kcall hHeld hb3
    have hBQ := hBQ0.bel hb3
    clear hBQ0
    refine hK.out _ _ hH3 (fun hHeld => ?_)
    clear hK K
    (try simp only [Act.put, List.setIfInBounds_toArray, List.set_cons_zero, List.set_cons_succ])
    refine wpAnyH_take (i := 10) (v := ?_) rfl (by kernel_rfl) (by kernel_rfl) (by kernel_rfl) (fun _ _ _ h => h) (Or.inl ⟨by rfl, ?_⟩) (by assumption) ?_
    rotate_left
    ·intro w' hSw
     have m0 := HLK.out w' hSw
     go_simp
     try with_reducible rfl
    (try simp only [Act.put, List.setIfInBounds_toArray, List.set_cons_zero, List.set_cons_succ])
    refine wpAnyH_take (i := 11) (v := ?_) rfl (by kernel_rfl) (by kernel_rfl) (by kernel_rfl) (fun _ _ _ h => h) (Or.inl ⟨by rfl, ?_⟩) (by assumption) ?_
    rotate_left
    ·intro w' hSw
     go_simp
     try with_reducible rfl
    (try simp only [Act.put, List.setIfInBounds_toArray, List.set_cons_zero, List.set_cons_succ])
    refine wpAnyH_take (i := 12) (v := ?_) rfl (by kernel_rfl) (by kernel_rfl) (by kernel_rfl) (fun _ _ _ h => h) (Or.inl ⟨by rfl, ?_⟩) (by assumption) ?_
    rotate_left
    ·intro w' hSw
     go_simp
     try with_reducible rfl
    (try simp only [Act.put, List.setIfInBounds_toArray, List.set_cons_zero, List.set_cons_succ])
    refine wpAnyH_take (i := 13) (v := ?_) rfl (by kernel_rfl) (by kernel_rfl) (by kernel_rfl) (fun _ _ _ h => h) (Or.inl ⟨by rfl, ?_⟩) (by assumption) ?_
    rotate_left
    ·intro w' hSw
     go_simp
     try with_reducible rfl
    (try simp only [Act.put, List.setIfInBounds_toArray, List.set_cons_zero, List.set_cons_succ])
    have o0 := hBQ.cell (v := (.int .i64 0)) 0 rfl
    have o1 := hBQ.cell (v := (.int .i64 0)) 1 rfl
    have o2 := hBQ.cell (v := (.int .i64 0)) 2 rfl
    have o3 := hBQ.cell (v := (.int .i64 0)) 3 rfl
    have o4 := hBQ.cell (v := (.slice none 0 0)) 4 rfl
    have o5 := hBQ.cell (v := (.slice none 0 0)) 5 rfl
    have o6 := hBQ.cell (v := (.string ⟨#[]⟩)) 6 rfl
    have o7 := hBQ.cell (v := (.bool false)) 7 rfl
    have ol := hBQ.lt
    have ot := hBQ.thaw
    have hS8 := ((((((((hH3.setCell (p := ⟨W.heap.size, 0, none⟩) (Nat.le_refl _) (.int .i64 x.no)).setCell (p := ⟨W.heap.size, 1, none⟩) (Nat.le_refl _) (.int .i64 x.at_)).setCell (p := ⟨W.heap.size, 2, none⟩) (Nat.le_refl _) (.int .i64 x.known)).setCell (p := ⟨W.heap.size, 3, none⟩) (Nat.le_refl _) (.int .i64 x.lang)).setCell (p := ⟨W.heap.size, 4, none⟩) (Nat.le_refl _) (.slice x.sA x.source.length x.sC)).setCell (p := ⟨W.heap.size, 5, none⟩) (Nat.le_refl _) (.slice x.tA x.target.length x.tC)).setCell (p := ⟨W.heap.size, 6, none⟩) (Nat.le_refl _) (.string x.cat)).setCell (p := ⟨W.heap.size, 7, none⟩) (Nat.le_refl _) (.bool x.gone))
    have hB8 := ((((((((hBQ.set 0 (.int .i64 x.no) rfl).set 1 (.int .i64 x.at_) rfl).set 2 (.int .i64 x.known) rfl).set 3 (.int .i64 x.lang) rfl).set 4 (.slice x.sA x.source.length x.sC) rfl).set 5 (.slice x.tA x.target.length x.tC) rfl).set 6 (.string x.cat) rfl).set 7 (.bool x.gone) rfl)
    refine wpAnyH_ready (rs := [15]) (by kernel_rfl) (by simp) (AllReadyH.cons rfl (fun K hK => ?_) AllReadyH.nil)
    go_simp
    refine hK.out _ _ hS8 (fun hHeld => ?_)
    clear hK K
    (try simp only [Act.put, List.setIfInBounds_toArray, List.set_cons_zero, List.set_cons_succ])
    refine wpAnyH_ready (rs := [16]) (by kernel_rfl) (by simp) (AllReadyH.cons rfl (fun K hK => ?_) AllReadyH.nil)
    go_simp
    refine hK.out _ _ hHeld (fun hHeld => ?_)
    clear hK K
    (try simp only [Act.put, List.setIfInBounds_toArray, List.set_cons_zero, List.set_cons_succ])
    refine wpAnyH_done (by kernel_rfl) ?_ _
    clear o0 o1 o2 o3 o4 o5 o6 o7 ol ot
    refine at_q (fun W9 => Blk W9 W.heap.size 85 #[.int .i64 x.no, .int .i64 x.at_, .int .i64 x.known, .int .i64 x.lang, .slice x.sA x.source.length x.sC, .slice x.tA x.target.length x.tC, .string x.cat, .bool x.gone] ∧ Below W.heap.size W W9) ⟨hB8, hS8⟩ ?_
    clear hHeld hH3 hb3 hB8 hS8 hBQ
    rintro W9 ⟨hBQ, hBW⟩
    have HBW := hide hBW
    have HBQ := hide hBQ
    have HJ9 := hide (HJ.out _ _ _ _ _ H0.out (XStep.of_below (O' := fun _ => False) hBW fun b hb => hb.elim))
    have K78 := hide (index78 g.cA g.cC g.cats x.cat W9 ((HTW.out.bel hBW).sl HC.out.gram.cats))
    have y1 := (HPT.out.bel hBW).cell (v := .slice g.cA g.cats.length g.cC) 1 rfl
    have y6 := hBQ.cell (v := .string x.cat) 6 rfl
    have ql := hBQ.lt
    have ptl := (HPT.out.bel hBW).lt
    clear hBW hBQ x0 x1 x7 l0 l1 l2
    gi_wp2_with fail
    refine (callsIn_wide.2 K78.out).mono ?_
    rintro e W' ⟨rfl, rfl⟩
    generalize idxL g.cats x.cat = d at *
    by_cases hd : 0 ≤ d
    ·have g5 : decide (0 ≤ d) = true := decide_eq_true hd
     replace HIT := hide (HIT.out.trans (if_pos hd))
     have c0 := (HPI.out.bel HBW.out).cell (v := .int .i64 i) 0 rfl
     have c1 := (HPM.out.bel HBW.out).cell (v := .int .i64 many) 0 rfl
     have c0l := (HPI.out.bel HBW.out).lt
     have c1l := (HPM.out.bel HBW.out).lt
     have y0 := HBQ.out.cell (v := .int .i64 x.no) 0 rfl
     have y5 := HBQ.out.cell (v := .slice x.tA x.target.length x.tC) 5 rfl
     have HIO := hide (show okItem wI.heap.size (fun _ => False) W9 ⟨d, i, (i : Int) + many, 0, x.tA, x.tC, x.target, x.no⟩ from itemLow (HTW.out.bel HBW.out) (HTM.out x rfl).target)
     obtain ⟨fn, tmps, assign, body, hyy, hRR⟩ := HY.out 0 #[itemV ⟨d, i, (i : Int) + many, 0, x.tA, x.tC, x.target, x.no⟩] (fun _ => False) W9 (by rw [HIT.out]; exact Nat.one_pos) ⟨_, rfl, by rw [HIT.out]; rfl, HIO.out⟩ HJ9.out (fun b hb => hb.elim) HBW.out.size
     (try simp only [itemV] at hRR hyy)
     replace hRR := hide hRR
     clear hd HY HIO
     gi_wp2_with fail
     refine hRR.out.mono ?_
     rintro e W' ⟨hK, (⟨rfl, hj'⟩ | ⟨rfl, hjx⟩)⟩
     ·have HKZ := hide (Nat.le_trans HBW.out.size hK.size)
      have HJ' := hide hj'
      clear hK hj'
      gi_wp2
      refine bodyPost_end (results_none rfl _ _ _) rfl ?_
      exact ⟨fun _ => False, fun b hb => hb.elim, HKZ.out, .inl ⟨⟨_, rfl⟩, by rw [HIT.out]; exact HJ'.out⟩⟩
     ·have HKZ := hide (Nat.le_trans HBW.out.size hK.size)
      have HJ' := hide hjx
      clear hK hjx
      gi_wp2
      refine bodyPost_end (results_none rfl _ _ _) rfl ?_
      exact ⟨fun _ => False, fun b hb => hb.elim, HKZ.out, .inr ⟨⟨_, rfl⟩, HJ'.out⟩⟩
    ·have g5 : decide (0 ≤ d) = false := decide_eq_false hd
     replace HIT := hide (HIT.out.trans (if_neg hd))
     clear hd HY
     gi_wp2
     refine bodyPost_end (results_none rfl _ _ _) rfl ?_
     exact ⟨fun _ => False, fun b hb => hb.elim, HBW.out.size, .inl ⟨⟨_, rfl⟩, by rw [HIT.out]; exact HJ9.out⟩⟩
end Go.Proofs.YtkfdafeonhnloaaGreatDoor
