/-
  slices.Collect at numbers and target words; text.Runes.
  text.Runes, text.Word.
  text.Word.
-/
import Derived.Test.YtkfdafeonhnloaaGreatDoorGM7
import Derived.Test.YtkfdafeonhnloaaGreatDoorA8
import Derived.Defers
import Derived.Recover
import Derived.Test.YtkfdafeonhnloaaGreatDoorGM6
namespace Go.Proofs.YtkfdafeonhnloaaGreatDoor
open Go.RowKit Go.Shelf Go.Mine Go.Mine.C
attribute [local go_sem] Oper.semAt_some
theorem seq_nil {α : Type} {f : α → List Value} {sz : Nat} {e : TypeId} {w0 : World} (base : Nat) : OwnL f sz e w0 base (.slice none 0 0) ([] : List α) := OwnL.nil f sz e w0 base
theorem collect103 (G : Nat) (lb : Array Value) (eg : ∀ args w, (callFunc G args).run Tryz.prog w = .ok (.enter G args) w) (N : Nat) (M : Nat → Int → Prop) (Ok : (Nat → Prop) → World → Int → Prop) (base : Nat) (hP : OkP 9 base Ok) (ch : Option (List PanicEntry)) (O0 R : Nat → Prop) (w0 : World)
  (hit : IterG Tryz.prog G lb N (Gives (fun h : Int => Value.int .i64 h) M Ok) ch O0 R w0) (hR : ∀ b, (O0 b ∨ R b) → b < w0.heap.size) (hbase : base ≤ w0.heap.size) (hN : N ≤ 1000000) :
  Calls Tryz.prog 103 #[.func (.func G) #[] lb] w0 fun e w' => KeptBut O0 w0 w' ∧ SeqEnd ic 1 3 M Ok N base [] (.slice none 0 0) w0.heap.size ch e w' := by
 have K := hide ((appendSeq141 G lb eg N M Ok base hP ch O0 R w0 hit hR hbase (.slice none 0 0) [] (seq_nil base) (fun g hg => by simp [Value.ownBlock] at hg) (by simpa using hN)).mono (R' := fun e w' => KeptBut O0 w0 w' ∧ SeqEnd ic 1 3 M Ok N base [] (.slice none 0 0) w0.heap.size ch e w')
  fun e w' h => ⟨h.1.mono fun x hx => by rcases hx with hx | hx; exact hx; simp [Value.ownBlock] at hx, h.2⟩)
 clear hit hR
 cases ch with
 | none =>
  go_enter Tryz.func103, Tryz.ntmps103
  go_wp2_with fail
  refine K.out.mono ?_
  rintro e w1 ⟨hk, u, hs, O, rfl, h1, h2, h3⟩
  have HK := hide hk
  have H1 := hide h1
  have H2 := hide h2
  have H3 := hide h3
  clear hk h1 h2 h3 K
  go_wp2
  go_ret
  exact ⟨HK.out, u, hs, O, rfl, H1.out, H2.out, H3.out⟩
 | some c =>
  go_enter Tryz.func103, Tryz.ntmps103
  go_wp2_with fail
  refine K.out.mono ?_
  rintro e w1 ⟨hk, he⟩
  obtain rfl : e = .panicked c := he
  exact ⟨rfl, hk, rfl⟩
theorem ignore102 (p q : Nat) (w : World) : CallsD Tryz.prog 102 #[.pointer (some ⟨p, 0, none⟩), .pointer (some ⟨q, 0, none⟩)] .returning w fun e u' w' => e = .returned (.tuple #[]) ∧ u' = .returning ∧ w' = w := by
 refine callsD_of_wpS Tryz.func102 rfl fun c₀ cs hu => ?_
 apply wpS_seq
 apply wpS_region
 simp [wpOpsS, go_sem, recoverD, hu, Tryz.ntmps102, Exit.thenS]
 apply wpS_seq
 apply wpS_region
 simp [wpOpsS, go_sem, Exit.thenS]
 refine wpS_cond (t := false) (by simp [Act.eval, Array.replicate]) ?_
 simp only [Bool.false_eq_true, if_false]
 refine wpS_of_wp (wp_skip ?_)
 cases c₀
 simp_all [bodyPostS, results, Tryz.results102]
set_option maxRecDepth 100000 in
set_option maxHeartbeats 1000000 in
theorem caught102 (p q : Nat) (v0 v1 : Value) (w : World) (hp : Blk w p 31 #[v0]) (hq : Blk w q 29 #[v1]) (hpq : p ≠ q) : CallsD Tryz.prog 102 #[.pointer (some ⟨p, 0, none⟩), .pointer (some ⟨q, 0, none⟩)] (.panicking wrongP) w fun e u' w' =>
  e = .returned (.tuple #[]) ∧ u' = .panicking [{ v := .iface 187 (.agg #[]), recovered := true }] ∧ Blk w' p 31 #[.slice none 0 0] ∧ Blk w' q 29 #[.int .i64 90] ∧ KeptBut (fun b => b = p ∨ b = q) w w' := by
 refine callsD_of_wpS Tryz.func102 rfl fun c₀ cs hu => ?_
 unfold wrongP at hu
 simp only [Tryz.ntmps102]
 simp only [List.size_toArray, List.length_cons, List.length_nil, Nat.reduceAdd, Nat.reduceSub, Array.replicate_succ, Array.replicate_zero, List.push_toArray, List.append_toArray, List.nil_append, List.cons_append]
 apply wpS_seq
 apply wpS_region
 simp [wpOpsS, go_sem, recoverD, hu, Exit.thenS]
 refine wpS_of_wp ?_
 have hta : ∀ w, (Instr.typeAssert (.iface 187 (.agg #[])) 20 187 true).run Tryz.prog w = .ok (.tuple #[.agg #[], .bool true]) w := fun _ => by kernel_rfl
 have B0 := hide (hp.alloc (.cells #[] 187))
 have B1 := hide (hq.alloc (.cells #[] 187))
 have p0 := hp.cell (v := v0) 0 rfl
 have p1 := hq.cell (v := v1) 0 rfl
 have l0 := hp.lt
 have l1 := hq.lt
 have t0 := hp.thaw 0
 have t1 := hq.thaw 0
 go_wp2
 have C0 := hide ((hp.set 0 (.slice none 0 0) (cs' := #[.slice none 0 0]) rfl).far ⟨q, 0, none⟩ (.int .i64 90) hpq)
 have C1 := hide ((hq.far ⟨p, 0, none⟩ (.slice none 0 0) (fun e => hpq e.symm)).set 0 (.int .i64 90) (cs' := #[.int .i64 90]) rfl)
 have CK := hide ((((KeptBut.refl (fun b => b = p ∨ b = q) w).set (p := ⟨p, 0, none⟩) (.slice none 0 0) (.inl (.inl rfl))).set (p := ⟨q, 0, none⟩) (.int .i64 90) (.inl (.inr rfl))).alloc (.cells #[] 187))
 simp [bodyPostS, results, Tryz.results102]
 exact ⟨C0.out.alloc _, C1.out.alloc _, CK.out⟩
structure Env (w : World) : Prop where
 utf8 : Lib.Utf8Tabs 2 3 w
 size : 4 ≤ w.heap.size
 sp : Lib.TabIs Tryz.prog w "strings.asciiSpace" .u8 Lib.asciiSpaceTab
theorem tabIs_bel {n : String} {g : Nat} {k : IntKind} {zs : List Int} {w w' : World} (hg : Tryz.prog.globalNamed n = some g) (h : Lib.TabIs Tryz.prog w n k zs) (hb : Below w.heap.size w w') : Lib.TabIs Tryz.prog w' n k zs := by
 unfold Lib.TabIs World.var? at h ⊢
 rw [hg] at h ⊢
 simp only [Option.bind_some] at h ⊢
 have hlt : g < w.heap.size := by
  rcases Nat.lt_or_ge g w.heap.size with h' | h'
  ·exact h'
  ·rw [Array.getElem?_eq_none h'] at h; cases h
 rw [hb.block g hlt]
 exact h
theorem Env.bel {w w' : World} (h : Env w) (hb : Below w.heap.size w w') : Env w' := ⟨Utf8Tabs_below h.utf8 hb, Nat.le_trans h.size hb.size, tabIs_bel (g := 1) (by kernel_rfl) h.sp hb⟩
theorem okTrue (ty : TypeId) (base : Nat) : OkP ty base (fun _ _ (_ : Int) => True) := ⟨fun _ _ _ => trivial, fun _ _ => trivial, fun _ _ => trivial⟩
set_option maxRecDepth 100000 in
set_option maxHeartbeats 2000000 in
theorem runes75_long (s : ByteArray) (w : World) (h : 4096 < s.size) : Calls Tryz.prog 75 #[.string s] w fun e w' => e = .returned (.tuple #[.slice none 0 0, .int .i64 2]) ∧ Below w.heap.size w w' := by
 have hmf : ∀ (fn : Fn) (first cap : Array Value) (w : World), (Instr.makeFunc fn first cap).run Tryz.prog w = .ok (.func fn first cap) w := fun _ _ _ _ => rfl
 have g0 : decide ((4096 : Int) < s.size) = true := decide_eq_true (by omega)
 go_enter_defers Tryz.func75, Tryz.ntmps75
 go_wp2
 refine leaves_cons (f := 102) (args := #[.pointer (some ⟨w.heap.size, 0, none⟩), .pointer (some ⟨w.heap.size + 1, 0, none⟩)]) (by simp) (by simp [go_sem]) ?_
 refine (ignore102 w.heap.size (w.heap.size + 1) _).mono ?_
 rintro e u' w'' ⟨rfl, rfl, rfl⟩
 simp [Leaves, settle, results, Tryz.results75, go_sem]
 exact kalloc (kalloc (Below.refl _ _) _) _
theorem points_coll (s : ByteArray) (W : World) (q : Nat) (hE : Lib.Utf8Tabs 2 3 W) (hz : 4 ≤ W.heap.size) (hq : Blk W q 9 #[.string s]) (hq4 : 4 ≤ q) (hs : s.size ≤ 4096) (base : Nat) (hb : base ≤ W.heap.size) :
  Calls Tryz.prog 103 #[.func (.func 142) #[] #[.pointer (some ⟨q, 0, none⟩)]] W fun e w' => KeptBut (fun b => b = q) W w' ∧ SeqEnd ic 1 3 (fun k r => (pts s).1[k]? = some r) (fun _ _ _ => True) (pts s).1.length base [] (.slice none 0 0) W.heap.size (ptsEnd s) e w' :=
 collect103 142 _ (enters_of Tryz.func142 (by kernel_rfl) rfl) (pts s).1.length _ _ base (okTrue 9 base) (ptsEnd s) _ _ W
  ((points142 s q W hE hq (by omega) hz).imp fun k x O W' h => by obtain ⟨r, h1, h2⟩ := h; exact ⟨r, h2, h1, trivial⟩)
  (fun b hb => by have := hq.lt; rcases hb with h | h | h <;> omega) hb (by have := pts_len s; omega)
set_option maxRecDepth 100000 in
set_option maxHeartbeats 2000000 in
theorem runes75_wrong (s : ByteArray) (w : World) (hE : Env w) (h : s.size ≤ 4096) (hp : (pts s).2 = false) : Calls Tryz.prog 75 #[.string s] w fun e w' => e = .returned (.tuple #[.slice none 0 0, .int .i64 90]) ∧ Below w.heap.size w w' := by
 have hmf : ∀ (fn : Fn) (first cap : Array Value) (w : World), (Instr.makeFunc fn first cap).run Tryz.prog w = .ok (.func fn first cap) w := fun _ _ _ _ => rfl
 have g0 : decide ((4096 : Int) < s.size) = false := decide_eq_false (by omega)
 have k3 := kalloc (kalloc (kalloc (Below.refl w.heap.size w) (.cells #[.slice none 0 0] 31)) (.cells #[.int .i64 0] 29)) (.cells #[.string s] 9)
 have E3 := hE.bel k3
 have hz := hE.size
 have K := hide (points_coll s _ (w.heap.size + 2) E3.utf8 E3.size (Blk.new2 w (.cells #[.slice none 0 0] 31) (.cells #[.int .i64 0] 29) #[.string s] 9) (by omega) h w.heap.size (by simp; omega))
 have B0 := (((Blk.new w #[.slice none 0 0] 31).alloc (.cells #[.int .i64 0] 29)).alloc (.cells #[.string s] 9))
 have B1 := ((Blk.new1 w (.cells #[.slice none 0 0] 31) #[.int .i64 0] 29).alloc (.cells #[.string s] 9))
 have HB := hide (And.intro B0 B1)
 have HK3 := hide k3
 have hend : ptsEnd s = some wrongP := by unfold ptsEnd; rw [if_neg (by rw [hp]; simp)]
 rw [hend] at K
 clear hE E3 k3 B0 B1 hend hp
 go_enter_defers Tryz.func75, Tryz.ntmps75
 go_wp2_with (go_at_call 104; go_in)
 refine K.out.mono ?_
 rintro e w1 ⟨hk, he⟩
 obtain rfl : e = .panicked wrongP := he
 have hX : ∀ b, b < w.heap.size + 2 → ¬ b = w.heap.size + 2 := fun b hb => by omega
 have A0 : Blk w1 w.heap.size 31 #[.slice none 0 0] := ⟨Nat.lt_of_lt_of_le HB.out.1.lt hk.size, (hk.keep _ HB.out.1.lt (by omega)).trans HB.out.1.at_⟩
 have A1 : Blk w1 (w.heap.size + 1) 29 #[.int .i64 0] := ⟨Nat.lt_of_lt_of_le HB.out.2.lt hk.size, (hk.keep _ HB.out.2.lt (by omega)).trans HB.out.2.at_⟩
 refine leaves_cons (f := 102) (args := #[.pointer (some ⟨w.heap.size, 0, none⟩), .pointer (some ⟨w.heap.size + 1, 0, none⟩)]) (by simp) (by simp [go_sem]) ?_
 refine (caught102 w.heap.size (w.heap.size + 1) _ _ w1 A0 A1 (by omega)).mono ?_
 rintro e u' w'' ⟨rfl, rfl, C0, C1, ck⟩
 have c0 := C0.cell (v := .slice none 0 0) 0 rfl
 have c1 := C1.cell (v := .int .i64 90) 0 rfl
 have HB2 := hide ((HK3.out.trans (hk.toBelow (B := w.heap.size) (by simp; omega) (fun x hx => by omega))).trans (ck.toBelow (B := w.heap.size) (by have := hk.size; simp at this; omega) (fun x hx => by omega)))
 clear hk ck C0 C1 A0 A1 K HB hX
 simp [Leaves, settle, results, Tryz.results75, go_sem, c0, c1]
 exact HB2.out
set_option maxRecDepth 100000 in
set_option maxHeartbeats 2000000 in
theorem runes75_right (s : ByteArray) (w : World) (hE : Env w) (h : s.size ≤ 4096) (hp : (pts s).2 = true) : Calls Tryz.prog 75 #[.string s] w fun e w' => ∃ v, e = .returned (.tuple #[v, .int .i64 0]) ∧ OwnL ic 1 3 w' w.heap.size v (pts s).1 ∧ Below w.heap.size w w' := by
 have hmf : ∀ (fn : Fn) (first cap : Array Value) (w : World), (Instr.makeFunc fn first cap).run Tryz.prog w = .ok (.func fn first cap) w := fun _ _ _ _ => rfl
 have g0 : decide ((4096 : Int) < s.size) = false := decide_eq_false (by omega)
 have k3 := kalloc (kalloc (kalloc (Below.refl w.heap.size w) (.cells #[.slice none 0 0] 31)) (.cells #[.int .i64 0] 29)) (.cells #[.string s] 9)
 have E3 := hE.bel k3
 have hz := hE.size
 have K := hide (points_coll s _ (w.heap.size + 2) E3.utf8 E3.size (Blk.new2 w (.cells #[.slice none 0 0] 31) (.cells #[.int .i64 0] 29) #[.string s] 9) (by omega) h (w.heap.size + 3) (by simp))
 have B0 := (((Blk.new w #[.slice none 0 0] 31).alloc (.cells #[.int .i64 0] 29)).alloc (.cells #[.string s] 9))
 have B1 := ((Blk.new1 w (.cells #[.slice none 0 0] 31) #[.int .i64 0] 29).alloc (.cells #[.string s] 9))
 have HB := hide (And.intro B0 B1)
 have HK3 := hide k3
 have hend : ptsEnd s = none := by unfold ptsEnd; rw [if_pos hp]
 rw [hend] at K
 clear hE E3 k3 B0 B1 hend hp
 go_enter_defers Tryz.func75, Tryz.ntmps75
 go_wp2_with (go_at_call 104; go_in)
 refine K.out.mono ?_
 rintro e w1 ⟨hk, u, hs, O, rfl, hown, hco, hob⟩
 rw [List.nil_append] at hown
 obtain rfl : hs = (pts s).1 := by
  apply List.ext_getElem?
  intro j
  by_cases hj : j < hs.length
  ·rw [hco.at_ j _ (List.getElem?_eq_getElem hj), List.getElem?_eq_getElem hj]
  ·rw [List.getElem?_eq_none (by omega), List.getElem?_eq_none (by have := hco.len; omega)]
 have A0 : Blk w1 w.heap.size 31 #[.slice none 0 0] := ⟨Nat.lt_of_lt_of_le HB.out.1.lt hk.size, (hk.keep _ HB.out.1.lt (by omega)).trans HB.out.1.at_⟩
 have A1 : Blk w1 (w.heap.size + 1) 29 #[.int .i64 0] := ⟨Nat.lt_of_lt_of_le HB.out.2.lt hk.size, (hk.keep _ HB.out.2.lt (by omega)).trans HB.out.2.at_⟩
 obtain ⟨A, c, hu, hsl⟩ := hown.sl
 clear hsl
 generalize hn : (pts s).1.length = n1 at hu
 clear hn
 subst hu
 have HO := hide (hown.keep (w' := (w1.setCell ⟨w.heap.size, 0, none⟩ (.slice A n1 c)).setCell ⟨w.heap.size + 1, 0, none⟩ (.int .i64 0)) (fun g hg => by
  have := (hown.blk hg).1
  exact (Below.heap_setCell _ _ _ _ (by dsimp only; omega)).trans (Below.heap_setCell _ _ _ _ (by dsimp only; omega))))
 have HBB := hide (((HK3.out.trans (hk.toBelow (B := w.heap.size) (by simp; omega) (fun x hx => by omega))).setCell (p := ⟨w.heap.size, 0, none⟩) (Nat.le_refl _) (.slice A n1 c)).setCell (p := ⟨w.heap.size + 1, 0, none⟩) (by dsimp only; omega) (.int .i64 0))
 have C0 := (A0.set 0 (.slice A n1 c) (cs' := #[.slice A n1 c]) rfl).far ⟨w.heap.size + 1, 0, none⟩ (.int .i64 0) (by dsimp only; omega)
 have C1 := (A1.far ⟨w.heap.size, 0, none⟩ (.slice A n1 c) (by dsimp only; omega)).set 0 (.int .i64 0) (cs' := #[.int .i64 0]) rfl
 have x0 := C0.cell (v := .slice A n1 c) 0 rfl
 have x1 := C1.cell (v := .int .i64 0) 0 rfl
 have a0 := A0.cell (v := .slice none 0 0) 0 rfl
 have a1 := A1.cell (v := .int .i64 0) 0 rfl
 have l0 := A0.lt
 have l1 := A1.lt
 have z0 := A0.thaw 0
 have z1 := A1.thaw 0
 clear hk hown hco hob A0 A1 C0 C1 K HB
 go_wp2
 refine leaves_cons (f := 102) (args := #[.pointer (some ⟨w.heap.size, 0, none⟩), .pointer (some ⟨w.heap.size + 1, 0, none⟩)]) (by simp) (by simp [go_sem]) ?_
 refine (ignore102 w.heap.size (w.heap.size + 1) _).mono ?_
 rintro e u' w'' ⟨rfl, rfl, rfl⟩
 simp [Leaves, settle, results, Tryz.results75, go_sem, x0, x1]
 exact ⟨HO.out.mono (by omega), HBB.out⟩
theorem space105 (r : Int) (w : World) : Calls Tryz.prog 105 #[.int .i64 r] w fun e w' => e = .returned (.bool (spB r)) ∧ w = w' := by
 have H := hide (show spB r = ((r == 32) || (r == 9) || (r == 10) || (r == 13)) from rfl)
 generalize spB r = R at *
 cases g1 : (r == 32) <;> cases g2 : (r == 9) <;> cases g3 : (r == 10) <;> cases g4 : (r == 13)
 all_goals
  rw [g1, g2, g3, g4] at H
  go_enter Tryz.func105, Tryz.ntmps105
  go_wp2
  go_ret
  exact ⟨ret_bool (by rw [H.out]; rfl), rfl⟩
set_option maxRecDepth 100000 in
set_option maxHeartbeats 2000000 in
theorem classes76 (w : World) : Calls Tryz.prog 76 #[] w fun e w' => ∃ b, e = .returned (.slice (some ⟨b, 0, none⟩) 4 4) ∧ b < w'.heap.size ∧ w'.cell? ⟨b, 1, none⟩ = some (.func (.func 105) #[] #[]) ∧ Below w.heap.size w w' := by
 have hmf : ∀ (fn : Fn) (first cap : Array Value) (w : World), (Instr.makeFunc fn first cap).run Tryz.prog w = .ok (.func fn first cap) w := fun _ _ _ _ => rfl
 go_enter Tryz.func76, Tryz.ntmps76
 go_wp2
 go_ret
 refine ⟨w.heap.size + 6, rfl, by simp, by simp [go_sem], ?_⟩
 repeat first
  | exact Below.refl _ _
  | refine kalloc ?_ _
set_option maxRecDepth 100000 in
set_option maxHeartbeats 4000000 in
theorem word34 (s : ByteArray) (w : World) (hE : Env w) : Calls Tryz.prog 34 #[.string s] w fun e w' => e = .returned (.bool (wordB s)) ∧ Below w.heap.size w w' := by
 by_cases hlong : 4096 < s.size
 ·have K := hide (runes75_long s w hlong)
  have e : wordB s = false := by unfold wordB; rw [decide_eq_false (show ¬ s.size ≤ 64 by omega)]; simp
  rw [e]
  clear e hE
  go_enter Tryz.func34, Tryz.ntmps34
  go_wp2_with fail
  refine K.out.mono ?_
  rintro e w1 ⟨rfl, hb⟩
  have HB := hide hb
  clear hb K
  go_wp2
  go_ret
  exact ⟨rfl, HB.out⟩
 ·cases hp : (pts s).2
  ·have K := hide (runes75_wrong s w hE (by omega) hp)
   have e : wordB s = false := by unfold wordB; rw [hp]; simp
   rw [e]
   clear e hE hp hlong
   go_enter Tryz.func34, Tryz.ntmps34
   go_wp2_with fail
   refine K.out.mono ?_
   rintro e w1 ⟨rfl, hb⟩
   have HB := hide hb
   clear hb K
   go_wp2
   go_ret
   exact ⟨rfl, HB.out⟩
  ·have K := hide (runes75_right s w hE (by omega) hp)
   have HE := hide (show wordB s = (decide (0 < s.size) && decide (s.size ≤ 64) && !((pts s).1.any spB)) by unfold wordB; rw [hp, Bool.true_and])
   generalize wordB s = R at *
   by_cases h0 : 0 < s.size
   ·by_cases h64 : s.size ≤ 64
    ·have g0 : decide ((0 : Int) < s.size) = true := decide_eq_true (by omega)
     have g1 : decide ((s.size : Int) ≤ 64) = true := decide_eq_true (by omega)
     have HE2 := hide (show R = !((pts s).1.any spB) by rw [HE.out, decide_eq_true h0, decide_eq_true h64]; rfl)
     clear hE hp hlong HE
     go_enter Tryz.func34, Tryz.ntmps34
     go_wp2_with fail
     refine K.out.mono ?_
     rintro e w1 ⟨v, rfl, hown, hb⟩
     obtain ⟨A, c, rfl, hsl⟩ := hown.sl
     have HB := hide hb
     have HS := hide hsl
     clear hown hb hsl K
     go_wp2_with fail
     refine (classes76 w1).mono ?_
     rintro e w2 ⟨b, rfl, hbl, hcell, hb2⟩
     have HB2 := hide (kcall HB.out hb2)
     have K2 := hide (contains29 105 #[] (enters_of Tryz.func105 (by kernel_rfl) rfl) spB A c _ w2 (HS.out.bel hb2) (fun x _ w' _ => (space105 x w').mono fun e w'' h => ⟨h.1, by rw [← h.2]; exact Below.refl _ _⟩))
     generalize (pts s).1.any spB = r at *
     clear hb2 HB HS
     go_wp2_with fail
     refine K2.out.mono ?_
     rintro e w3 ⟨rfl, hb3⟩
     have HB3 := hide (kcall HB2.out hb3)
     clear hb3 K2 HB2 hcell hbl
     go_wp2
     go_ret
     exact ⟨ret_bool HE2.out.symm, HB3.out⟩
    ·have g0 : decide ((0 : Int) < s.size) = true := decide_eq_true (by omega)
     have g1 : decide ((s.size : Int) ≤ 64) = false := decide_eq_false (by omega)
     have HE2 := hide (show R = false by rw [HE.out, decide_eq_false h64]; simp)
     clear hE hp hlong HE
     go_enter Tryz.func34, Tryz.ntmps34
     go_wp2_with fail
     refine K.out.mono ?_
     rintro e w1 ⟨v, rfl, hown, hb⟩
     have HB := hide hb
     clear hown hb K
     go_wp2
     go_ret
     exact ⟨ret_bool HE2.out.symm, HB.out⟩
   ·have g0 : decide ((0 : Int) < s.size) = false := decide_eq_false (by omega)
    have h00 : s.size = 0 := by omega
    have HE2 := hide (show R = false by rw [HE.out, decide_eq_false h0]; simp)
    clear hE hp hlong HE
    go_enter Tryz.func34, Tryz.ntmps34
    go_wp2_with fail
    refine K.out.mono ?_
    rintro e w1 ⟨v, rfl, hown, hb⟩
    have HB := hide hb
    clear hown hb K
    go_wp2
    go_ret
    exact ⟨ret_bool HE2.out.symm, HB.out⟩
end Go.Proofs.YtkfdafeonhnloaaGreatDoor
