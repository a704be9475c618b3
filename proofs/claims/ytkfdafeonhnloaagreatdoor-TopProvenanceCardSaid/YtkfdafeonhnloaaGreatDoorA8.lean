/-
 slices.AppendSeq at numbers, items and target words, over any iterator of the general kind.
-/
import Derived.Test.YtkfdafeonhnloaaGreatDoorGM2
import Derived.Test.YtkfdafeonhnloaaGreatDoorGM4
namespace Go.Mine
open Go.RowKit
structure Gives {α : Type} (enc : α → Value) (M : Nat → α → Prop) (Ok : (Nat → Prop) → World → α → Prop) (k : Nat) (x : Array Value) (O : Nat → Prop) (W : World) : Prop where
 ex : ∃ h, x = #[enc h] ∧ M k h ∧ Ok O W h
structure OkP {α : Type} (ty : TypeId) (base : Nat) (Ok : (Nat → Prop) → World → α → Prop) : Prop where
 other : ∀ {O W W' h}, Ok O W h → W.heap.size ≤ W'.heap.size → (∀ b, b < W.heap.size → (b < base ∨ ∃ cs fz, W.heap[b]? = some (.cells cs ty fz)) → W'.heap[b]? = W.heap[b]?) → Ok O W' h
 step : ∀ {O O' W W' h}, Ok O W h → XStep O O' W W' → Ok O' W' h
 more : ∀ {O O' : Nat → Prop} {W h}, Ok O W h → (∀ b, O' b → O b ∨ NotCells W b) → Ok O' W h
structure Coll {α : Type} (M : Nat → α → Prop) (Ok : (Nat → Prop) → World → α → Prop) (k : Nat) (hs : List α) (O : Nat → Prop) (W : World) : Prop where
 len : hs.length = k
 at_ : ∀ j h, hs[j]? = some h → M j h
 ok : ∀ h ∈ hs, Ok O W h
theorem Coll.step {α : Type} {ty : TypeId} {base : Nat} {M : Nat → α → Prop} {Ok : (Nat → Prop) → World → α → Prop} (hP : OkP ty base Ok) {k : Nat} {hs : List α} {O O' : Nat → Prop} {W W' : World} (h : Coll M Ok k hs O W) (s : XStep O O' W W') : Coll M Ok k hs O' W' :=
 ⟨h.len, h.at_, fun x hx => hP.step (h.ok x hx) s⟩
theorem Coll.other {α : Type} {ty : TypeId} {base : Nat} {M : Nat → α → Prop} {Ok : (Nat → Prop) → World → α → Prop} (hP : OkP ty base Ok) {k : Nat} {hs : List α} {O : Nat → Prop} {W W' : World} (h : Coll M Ok k hs O W) (hz : W.heap.size ≤ W'.heap.size) (hk : ∀ b, b < W.heap.size → (b < base ∨ ∃ cs fz, W.heap[b]? = some (.cells cs ty fz)) → W'.heap[b]? = W.heap[b]?) : Coll M Ok k hs O W' :=
 ⟨h.len, h.at_, fun x hx => hP.other (h.ok x hx) hz hk⟩
theorem Coll.snoc {α : Type} {M : Nat → α → Prop} {Ok : (Nat → Prop) → World → α → Prop} {k : Nat} {hs : List α} {O : Nat → Prop} {W : World} (h : Coll M Ok k hs O W) {x : α} (hm : M k x) (hx : Ok O W x) : Coll M Ok (k + 1) (hs ++ [x]) O W :=
 ⟨by simp [h.len], fun j y hy => by
  by_cases hj : j < hs.length
  ·rw [List.getElem?_append_left hj] at hy; exact h.at_ j y hy
  ·rw [List.getElem?_append_right (by omega)] at hy
   have : j = hs.length := by
    rcases Nat.lt_or_ge (j - hs.length) 1 with h1 | h1
    ·omega
    ·rw [List.getElem?_eq_none (by simpa using h1)] at hy; cases hy
   subst this
   simp at hy; subst hy
   rw [h.len]; exact hm, fun y hy => by
  rcases List.mem_append.1 hy with hy | hy
  ·exact h.ok y hy
  ·simp at hy; subst hy; exact hx⟩
def SeqEnd {α : Type} (f : α → List Value) (sz : Nat) (e : TypeId) (M : Nat → α → Prop) (Ok : (Nat → Prop) → World → α → Prop) (N base : Nat) (l : List α) (v : Value) (z : Nat) : Option (List PanicEntry) → Ending → World → Prop
 | none, en, w' => ∃ (u : Value) (hs : List α) (O : Nat → Prop), en = .returned u ∧ OwnL f sz e w' base u (l ++ hs) ∧ Coll M Ok N hs O w' ∧ (∀ g, u.ownBlock = some g → v.ownBlock = some g ∨ z ≤ g)
 | some c, en, _ => en = .panicked c
end Go.Mine
namespace Go.Proofs.YtkfdafeonhnloaaGreatDoor
open Go.RowKit Go.Shelf Go.Mine Go.Mine.C
attribute [local go_sem] Oper.semAt_some
theorem Tryz_infoA3 : (Tryz.prog.info? 3).map (fun i => (i.zero, i.size, i.bytes)) = some (some (.int .i64 0), 1, 8) := by kernel_rfl
theorem ones141 (l : List Int) : ∀ x ∈ l, ∀ u ∈ ic x, u.oneCell' = true := by
 intro x _ u hu
 simp only [ic, List.mem_cons, List.not_mem_nil, or_false] at hu
 subst hu; rfl
def Inv141 (M : Nat → Int → Prop) (Ok : (Nat → Prop) → World → Int → Prop) (v : Value) (l : List Int) (O0 : Nat → Prop) (w0 : World) (base k : Nat) (O : Nat → Prop) (W : World) : Prop :=
 ∃ (u : Value) (hs : List Int), Bx O W w0.heap.size 31 u ∧ OwnO ic 1 3 O W base u (l ++ hs) ∧ Coll M Ok k hs O W ∧ KeptBut (fun b => O0 b ∨ v.ownBlock = some b) w0 W ∧ w0.heap.size + 1 ≤ W.heap.size ∧ (∀ b, O b → O0 b ∨ w0.heap.size + 1 ≤ b) ∧ (∀ g, u.ownBlock = some g → v.ownBlock = some g ∨ w0.heap.size + 1 ≤ g)
theorem inv_step141 {M : Nat → Int → Prop} {Ok : (Nat → Prop) → World → Int → Prop} {base : Nat} (hP : OkP 9 base Ok) {v : Value} {l : List Int} {O0 : Nat → Prop} {w0 : World} : XStable (Inv141 M Ok v l O0 w0 base) := by
 rintro k O O' W W' ⟨u, hs, h1, h2, h3, h4, h5, h6, h7⟩ s
 have hO' : ∀ b, O' b → O0 b ∨ w0.heap.size + 1 ≤ b := fun b hb => by
  rcases s.owns b hb with h | h
  ·exact h6 b h
  ·exact .inr (by omega)
 refine ⟨u, hs, XStep.bx h1 s, h2.gstep s, h3.step hP s, h4.step s (fun x hx => ?_), Nat.le_trans h5 s.size, hO', h7⟩
 rcases h6 x hx with h | h
 ·exact .inl (.inl h)
 ·exact .inr (by omega)
set_option maxRecDepth 100000 in
set_option maxHeartbeats 4000000 in
theorem appendSeq141 (G : Nat) (lb : Array Value) (eg : ∀ args w, (callFunc G args).run Tryz.prog w = .ok (.enter G args) w) (N : Nat) (M : Nat → Int → Prop) (Ok : (Nat → Prop) → World → Int → Prop) (base : Nat) (hP : OkP 9 base Ok) (ch : Option (List PanicEntry)) (O0 R : Nat → Prop) (w0 : World)
  (hit : IterG Tryz.prog G lb N (Gives (fun h : Int => Value.int .i64 h) M Ok) ch O0 R w0) (hR : ∀ b, (O0 b ∨ R b) → b < w0.heap.size) (hbase : base ≤ w0.heap.size) (v : Value) (l : List Int) (hv : OwnL ic 1 3 w0 base v l) (hvR : ∀ g, v.ownBlock = some g → ¬ O0 g ∧ ¬ R g)
  (hN : l.length + N ≤ 1000000) :
  Calls Tryz.prog 141 #[v, .func (.func G) #[] lb] w0 fun e w' => KeptBut (fun b => O0 b ∨ v.ownBlock = some b) w0 w' ∧ SeqEnd ic 1 3 M Ok N base l v w0.heap.size ch e w' := by
 obtain ⟨i0, hi, hz0, hz1, hz2⟩ := info_parts Tryz_infoA3
 have HI := hide hi
 clear hi
 obtain ⟨A0, c0, hve, hsl0⟩ := hv.sl
 clear hsl0
 generalize hnl0 : l.length = n0 at hve hN
 have HN0 := hide hnl0
 clear hnl0
 subst hve
 refine (callsIn_wide (n := 9)).1 (callsIn_of_wp_marks Tryz.func141 rfl trivial ?_ rfl)
 simp only [Tryz.ntmps141]
 simp only [List.size_toArray, List.length_cons, List.length_nil, Nat.reduceAdd, Nat.reduceSub, Array.replicate_succ, Array.replicate_zero, List.push_toArray, List.append_toArray, List.nil_append, List.cons_append]
 gi_wp2
 obtain ⟨w1, hw1⟩ : ∃ x, x = w0.alloc (.cells #[.slice A0 n0 c0] 31) := ⟨_, rfl⟩
 have hb1 : Below w0.heap.size w0 w1 := by rw [hw1]; exact kalloc (Below.refl _ _) _
 have hz1w : w1.heap.size = w0.heap.size + 1 := by rw [hw1]; simp
 have h01 : Inv141 M Ok (.slice A0 n0 c0) l O0 w0 base 0 O0 w1 := by
  refine ⟨.slice A0 n0 c0, [], ⟨fun h => by have := hR _ (.inl h); omega, by rw [hw1]; exact heap_new _ _⟩, ⟨by rw [List.append_nil]; exact hv.bel hb1, fun g hg h => (hvR g hg).1 h⟩, ⟨rfl, by simp, by simp⟩, .of_below hb1, by omega, fun b hb => .inl hb, fun g hg => .inl hg⟩
 rw [← hw1]
 clear hw1
 have HV := hide hv
 have HVR := hide hvR
 have HR := hide hR
 clear hv hvR
 refine wpIn_rangeX (gf := G) (lb := lb) rfl eg hit hb1.size (fun b hb => ⟨hR b hb, hb1.block b (hR b hb)⟩)
  (fun k x O W h => by obtain ⟨y, e, _⟩ := h.ex; rw [e]; rfl)
  (Inv141 M Ok (.slice A0 n0 c0) l O0 w0 base) (fun _ _ _ => False) (inv_step141 hP) (fun _ _ _ _ _ h _ => h) h01 ?body ?done ?pan ?stop
 case body =>
  rintro lp k x O O' W hkN hG hOO hNC ⟨u, hs, h1, h2, h3, h4, h5, h6, h7⟩ hOb hWz
  obtain ⟨h, rfl, hM, hOk⟩ := hG.ex
  have hOk := hP.more hOk hNC
  have hkN' : hs.length < N := by have := h3.len; omega
  gi_wp2
  refine ⟨Kept.refl _ _, fun d o hd hst => ?_⟩
  have st2 : XStep O' O' W (W.putObj d o) := hst
  obtain ⟨W2, hW2⟩ : ∃ x, x = W.putObj d o := ⟨_, rfl⟩
  rw [← hW2] at st2 ⊢
  clear hW2 hst
  have HX := hide (XStep.bx h1 st2)
  have HO := hide (h2.gstep st2)
  have HC := hide ((h3.step hP st2).snoc hM (hP.step hOk st2))
  have hW2z := st2.size
  have HK : Hid (KeptBut (fun b => O0 b ∨ (Value.slice A0 n0 c0).ownBlock = some b) w0 W2) := hide (h4.step st2 (fun x hx => by
   rcases h6 x hx with h | h
   ·exact .inl (.inl h)
   ·exact .inr (by omega)))
  have x0 := HX.out.cell
  have hxl := HX.out.lt
  have H6 := hide h6
  have H7 := hide h7
  have hlen : (l ++ hs).length = l.length + hs.length := List.length_append
  have HLN := hide hlen
  have HOB := hide (show ∀ b, O' b → b < W2.heap.size from fun b hb => Nat.lt_of_lt_of_le (hOb b hb).2 hW2z)
  clear h1 h2 h3 h4 h6 h7 hOk hM hG hOO hNC h01 st2 hOb hlen
  gi_wp2_with (gi_at_builtin; refine wpListIn_append rfl (.tmp 8) (.tmp 10) 31 rfl rfl rfl (run_extend (f := ic) (base := base) (l1 := l ++ hs) (l2 := [h]) Tryz.underlying31 HI.out hz0 hz1 hz2 rfl (by decide) (HO.out.own.alloc _) (Sl.one (Blk.new _ _ _) (by rfl) rfl (by decide) (by decide)) (ones141 _) ?_ ?_ ?_) ?_)
  ·have := HLN.out; have := HN0.out; simp only [List.length_singleton]; unfold maxLen; omega
  ·have := HLN.out; have := HN0.out; simp only [List.length_singleton]; omega
  ·simp; omega
  ·intro v9 w9 hO9 hg9 hat9
   (try simp only [List.append_assoc] at hO9)
   obtain ⟨A9, c9, hv9, hsl9⟩ := hO9.sl
   clear hsl9
   generalize hn9 : (l ++ (hs ++ [h])).length = n9 at hv9
   clear hn9
   subst hv9
   have hS2 : (W2.alloc (.cells #[.int .i64 h] 3)).heap.size = W2.heap.size + 1 := by simp
   have hX9 : Bx O' w9 w0.heap.size 31 u := (HX.out.alloc _).grown hg9 (fun e => by
    rcases H7.out _ e.symm with h | h
    ·have := (HV.out.blk h).2.1; omega
    ·omega)
   have z9 := hX9.frozen
   have p9 := hX9.cell
   have hl9 := hX9.lt
   have hz9 := hg9.size
   have hrow : ∀ g, u.ownBlock = some g → ¬ O' g := HO.out.no
   have hat' : ∀ g, (Value.slice A9 n9 c9).ownBlock = some g → u.ownBlock = some g ∨ W2.heap.size + 1 ≤ g := fun g hg => by rcases hat9 g hg with h | h; exact .inl h; exact .inr (by omega)
   have hne9 : ∀ g, (Value.slice A9 n9 c9).ownBlock = some g → g ≠ w0.heap.size := fun g hg e => by
    rcases hat' g hg with h | h
    ·rcases H7.out g h with h' | h'
     ·have := (HV.out.blk h').2.1; omega
     ·omega
    ·omega
   have hdat : ∀ b, b < W2.heap.size → (b < base ∨ ∃ cs fz, W2.heap[b]? = some (.cells cs 9 fz)) → (w9.setCell ⟨w0.heap.size, 0, none⟩ (.slice A9 n9 c9)).heap[b]? = W2.heap[b]? := fun b hb hd => by
    have hnb : b ≠ w0.heap.size := by
     rintro rfl
     rcases hd with hd | ⟨cs, fz, hd⟩
     ·omega
     ·rw [HX.out.at_] at hd; simp at hd
    have hng : some b ≠ u.ownBlock := fun e => by
     obtain ⟨g1, g2, cur, g3⟩ := HO.out.own.blk e.symm
     rcases hd with hd | ⟨cs, fz, hd⟩
     ·omega
     ·rw [g3] at hd; simp at hd
    exact (Below.heap_setCell _ _ _ _ hnb).trans ((hg9.block b (by omega) hng).trans (Below.heap_alloc _ _ _ hb))
   have hsc9 : (w9.setCell ⟨w0.heap.size, 0, none⟩ (.slice A9 n9 c9)).heap.size = w9.heap.size := by simp [World.setCell]
   have HC9 := hide (HC.out.other hP (by rw [hsc9]; omega) hdat)
   have hO9f := hO9.keep (w' := w9.setCell ⟨w0.heap.size, 0, none⟩ (.slice A9 n9 c9)) (fun g hg => Below.heap_setCell _ _ _ _ (hne9 g hg))
   have hW2' : w0.heap.size + 1 ≤ W2.heap.size := by omega
   have HO9 : Hid (OwnO ic 1 3 O' (w9.setCell ⟨w0.heap.size, 0, none⟩ (.slice A9 n9 c9)) base (.slice A9 n9 c9) (l ++ (hs ++ [h]))) := hide ⟨hO9f, fun g hg hOg => by
    rcases hat' g hg with h1 | h1
    ·exact hrow g h1 hOg
    ·have := HOB.out g hOg; omega⟩
   have HX9 := hide (hX9.set (.slice A9 n9 c9))
   have HK9 : Hid (KeptBut (fun b => O0 b ∨ (Value.slice A0 n0 c0).ownBlock = some b) w0 (w9.setCell ⟨w0.heap.size, 0, none⟩ (.slice A9 n9 c9))) := hide (((HK.out.alloc _).grown hg9 (fun g hg => by
    rcases H7.out g hg with h1 | h1
    ·exact .inl (.inr h1)
    ·exact .inr (by omega))).set (.slice A9 n9 c9) (.inr (Nat.le_refl _)))
   have H79 : Hid (∀ g, (Value.slice A9 n9 c9).ownBlock = some g → (Value.slice A0 n0 c0).ownBlock = some g ∨ w0.heap.size + 1 ≤ g) := hide (fun g hg => by
    rcases hat' g hg with h1 | h1
    ·exact H7.out g h1
    ·exact .inr (by omega))
   have HKR : Hid (Kept (fun b => O' b ∨ R b) W2 (w9.setCell ⟨w0.heap.size, 0, none⟩ (.slice A9 n9 c9))) := hide (((kept_alloc W2 _).grown hg9 (fun g hg hor => by
    rcases hor with h1 | h1
    ·exact hrow g hg h1
    ·rcases H7.out g hg with h2 | h2
     ·exact (HVR.out g h2).2 h1
     ·have := HR.out g (.inr h1); omega)).setCell (.slice A9 n9 c9) (fun hor => by
    rcases hor with h1 | h1
    ·exact HX.out.no h1
    ·have h2 := HR.out _ (.inr h1); dsimp only at h2; omega))
   clear hO9 hg9 hat9 hX9 hdat hO9f hat' hne9 hrow x0
   gi_wp2
   exact ⟨HKR.out, .slice A9 n9 c9, hs ++ [h], HX9.out, HO9.out, HC9.out, HK9.out, by rw [hsc9]; omega, H6.out, H79.out⟩ --(.slice A9 n9 c9), hs ++ [h], HX9.out, HO9.out, HC9.out, HK9.out, by rw [hsc9]; omega, H6.out, H79.out⟩
 case done =>
  rintro O W hch ⟨u, hs, h1, h2, h3, h4, h5, h6, h7⟩ hOb hD hOD hz
  have x0 := h1.cell
  have hxl := h1.lt
  have HO := hide h2
  have HC := hide h3
  have HK := hide h4
  have H7 := hide h7
  have HD := hide hD
  have hDl := (Array.getElem?_eq_some_iff.1 hD).1
  clear h1 h2 h3 h4 h6 h7 hOb hD
  gi_wp2
  refine leaves_mark1 (v := u) HD.out (by simp [results, Tryz.results141, go_sem]) ?_
  subst hch
  refine ⟨HK.out.put _ (.inr (by omega)), u, hs, O, rfl, HO.out.own.keep (fun g hg => World.putObj_heap_other (by rintro rfl; exact HO.out.no _ hg hOD)), HC.out.other hP (by simp) (fun b hb hd => World.putObj_heap_other (by
   rintro rfl
   rcases hd with hd | ⟨cs, fz, hd⟩
   ·omega
   ·rw [HD.out] at hd; cases hd)), fun g hg => by
   rcases H7.out g hg with h1 | h1
   ·exact .inl h1
   ·exact .inr (by omega)⟩
 case pan =>
  rintro c O W hch ⟨u, hs, h1, h2, h3, h4, h5, h6, h7⟩ hOb hD hOD hz
  have HD := hide hD
  have HK := hide h4
  have hDl := (Array.getElem?_eq_some_iff.1 hD).1
  clear h1 h2 h3 h4 h6 h7 hOb hD
  subst hch
  rw [hz1w] at HD
  go_simp
  exact leaves_panic1 HD.out ⟨HK.out.put _ (.inr (by omega)), rfl⟩
 case stop =>
  rintro c O W h
  exact h.elim
theorem Tryz_infoA68 : (Tryz.prog.info? 68).map (fun i => (i.zero, i.size, i.bytes)) = some (some (.agg #[.int .i64 0, .int .i64 0, .int .i64 0, .int .i64 0, .slice none 0 0, .int .i64 0]), 6, 64) := by kernel_rfl
theorem ones44 (l : List ItemH) : ∀ x ∈ l, ∀ u ∈ itemC x, u.oneCell' = true := by
 intro x _ u hu
 simp only [itemC, List.mem_cons, List.not_mem_nil, or_false] at hu
 rcases hu with rfl | rfl | rfl | rfl | rfl | rfl <;> rfl
def Inv44 (M : Nat → ItemH → Prop) (Ok : (Nat → Prop) → World → ItemH → Prop) (v : Value) (l : List ItemH) (O0 : Nat → Prop) (w0 : World) (base k : Nat) (O : Nat → Prop) (W : World) : Prop :=
 ∃ (u : Value) (hs : List ItemH), Bx O W w0.heap.size 46 u ∧ OwnO itemC 6 68 O W base u (l ++ hs) ∧ Coll M Ok k hs O W ∧ KeptBut (fun b => O0 b ∨ v.ownBlock = some b) w0 W ∧ w0.heap.size + 1 ≤ W.heap.size ∧ (∀ b, O b → O0 b ∨ w0.heap.size + 1 ≤ b) ∧ (∀ g, u.ownBlock = some g → v.ownBlock = some g ∨ w0.heap.size + 1 ≤ g)
theorem inv_step44 {M : Nat → ItemH → Prop} {Ok : (Nat → Prop) → World → ItemH → Prop} {base : Nat} (hP : OkP 9 base Ok) {v : Value} {l : List ItemH} {O0 : Nat → Prop} {w0 : World} : XStable (Inv44 M Ok v l O0 w0 base) := by
 rintro k O O' W W' ⟨u, hs, h1, h2, h3, h4, h5, h6, h7⟩ s
 have hO' : ∀ b, O' b → O0 b ∨ w0.heap.size + 1 ≤ b := fun b hb => by
  rcases s.owns b hb with h | h
  ·exact h6 b h
  ·exact .inr (by omega)
 refine ⟨u, hs, XStep.bx h1 s, h2.gstep s, h3.step hP s, h4.step s (fun x hx => ?_), Nat.le_trans h5 s.size, hO', h7⟩
 rcases h6 x hx with h | h
 ·exact .inl (.inl h)
 ·exact .inr (by omega)
set_option maxRecDepth 100000 in
set_option maxHeartbeats 4000000 in
theorem appendSeq44 (G : Nat) (lb : Array Value) (eg : ∀ args w, (callFunc G args).run Tryz.prog w = .ok (.enter G args) w) (N : Nat) (M : Nat → ItemH → Prop) (Ok : (Nat → Prop) → World → ItemH → Prop) (base : Nat) (hP : OkP 9 base Ok) (ch : Option (List PanicEntry)) (O0 R : Nat → Prop) (w0 : World)
  (hit : IterG Tryz.prog G lb N (Gives itemV M Ok) ch O0 R w0) (hR : ∀ b, (O0 b ∨ R b) → b < w0.heap.size) (hbase : base ≤ w0.heap.size) (v : Value) (l : List ItemH) (hv : OwnL itemC 6 68 w0 base v l) (hvR : ∀ g, v.ownBlock = some g → ¬ O0 g ∧ ¬ R g)
  (hN : l.length + N ≤ 1000000) :
  Calls Tryz.prog 44 #[v, .func (.func G) #[] lb] w0 fun e w' => KeptBut (fun b => O0 b ∨ v.ownBlock = some b) w0 w' ∧ SeqEnd itemC 6 68 M Ok N base l v w0.heap.size ch e w' := by
 obtain ⟨i0, hi, hz0, hz1, hz2⟩ := info_parts Tryz_infoA68
 have HI := hide hi
 clear hi
 obtain ⟨A0, c0, hve, hsl0⟩ := hv.sl
 clear hsl0
 generalize hnl0 : l.length = n0 at hve hN
 have HN0 := hide hnl0
 clear hnl0
 subst hve
 refine (callsIn_wide (n := 9)).1 (callsIn_of_wp_marks Tryz.func44 rfl trivial ?_ rfl)
 simp only [Tryz.ntmps44]
 simp only [List.size_toArray, List.length_cons, List.length_nil, Nat.reduceAdd, Nat.reduceSub, Array.replicate_succ, Array.replicate_zero, List.push_toArray, List.append_toArray, List.nil_append, List.cons_append]
 gi_wp2
 obtain ⟨w1, hw1⟩ : ∃ x, x = w0.alloc (.cells #[.slice A0 n0 c0] 46) := ⟨_, rfl⟩
 have hb1 : Below w0.heap.size w0 w1 := by rw [hw1]; exact kalloc (Below.refl _ _) _
 have hz1w : w1.heap.size = w0.heap.size + 1 := by rw [hw1]; simp
 have h01 : Inv44 M Ok (.slice A0 n0 c0) l O0 w0 base 0 O0 w1 := by
  refine ⟨.slice A0 n0 c0, [], ⟨fun h => by have := hR _ (.inl h); omega, by rw [hw1]; exact heap_new _ _⟩, ⟨by rw [List.append_nil]; exact hv.bel hb1, fun g hg h => (hvR g hg).1 h⟩, ⟨rfl, by simp, by simp⟩, .of_below hb1, by omega, fun b hb => .inl hb, fun g hg => .inl hg⟩
 rw [← hw1]
 clear hw1
 have HV := hide hv
 have HVR := hide hvR
 have HR := hide hR
 clear hv hvR
 refine wpIn_rangeX (gf := G) (lb := lb) rfl eg hit hb1.size (fun b hb => ⟨hR b hb, hb1.block b (hR b hb)⟩)
  (fun k x O W h => by obtain ⟨y, e, _⟩ := h.ex; rw [e]; rfl)
  (Inv44 M Ok (.slice A0 n0 c0) l O0 w0 base) (fun _ _ _ => False) (inv_step44 hP) (fun _ _ _ _ _ h _ => h) h01 ?body ?done ?pan ?stop
 case body =>
  rintro lp k x O O' W hkN hG hOO hNC ⟨u, hs, h1, h2, h3, h4, h5, h6, h7⟩ hOb hWz
  obtain ⟨h, rfl, hM, hOk⟩ := hG.ex
  have hOk := hP.more hOk hNC
  have hkN' : hs.length < N := by have := h3.len; omega
  simp only [itemV]
  gi_wp2
  refine ⟨kept_alloc _ _, fun d o hd hst => ?_⟩
  have B0 := (Blk.new W #[.int .i64 h.cat, .int .i64 h.from_, .int .i64 h.until_, .int .i64 h.cost, .slice h.tA h.target.length h.tC, .int .i64 h.term] 68).turned o hd
  have st2 : XStep O' O' W ((W.alloc (.cells #[.int .i64 h.cat, .int .i64 h.from_, .int .i64 h.until_, .int .i64 h.cost, .slice h.tA h.target.length h.tC, .int .i64 h.term] 68)).putObj d o) := (XStep.of_below (kalloc (Below.refl _ _) _) fun b hb => .inl hb).trans hst
  obtain ⟨W2, hW2⟩ : ∃ x, x = (W.alloc (.cells #[.int .i64 h.cat, .int .i64 h.from_, .int .i64 h.until_, .int .i64 h.cost, .slice h.tA h.target.length h.tC, .int .i64 h.term] 68)).putObj d o := ⟨_, rfl⟩
  rw [← hW2] at B0 st2 ⊢
  clear hW2 hst
  have p0 := B0.cell (v := .int .i64 h.cat) 0 rfl
  have p1 := B0.cell (v := .int .i64 h.from_) 1 rfl
  have p2 := B0.cell (v := .int .i64 h.until_) 2 rfl
  have p3 := B0.cell (v := .int .i64 h.cost) 3 rfl
  have p4 := B0.cell (v := .slice h.tA h.target.length h.tC) 4 rfl
  have p5 := B0.cell (v := .int .i64 h.term) 5 rfl
  have pl := B0.lt
  clear B0
  have HX := hide (XStep.bx h1 st2)
  have HO := hide (h2.gstep st2)
  have HC := hide ((h3.step hP st2).snoc hM (hP.step hOk st2))
  have hW2z := st2.size
  have HK : Hid (KeptBut (fun b => O0 b ∨ (Value.slice A0 n0 c0).ownBlock = some b) w0 W2) := hide (h4.step st2 (fun x hx => by
   rcases h6 x hx with h | h
   ·exact .inl (.inl h)
   ·exact .inr (by omega)))
  have x0 := HX.out.cell
  have hxl := HX.out.lt
  have H6 := hide h6
  have H7 := hide h7
  have hlen : (l ++ hs).length = l.length + hs.length := List.length_append
  have HLN := hide hlen
  have HOB := hide (show ∀ b, O' b → b < W2.heap.size from fun b hb => Nat.lt_of_lt_of_le (hOb b hb).2 hW2z)
  clear h1 h2 h3 h4 h6 h7 hOk hM hG hOO hNC h01 st2 hOb hlen
  gi_wp2_with (gi_at_builtin; refine wpListIn_append rfl (.tmp 8) (.tmp 10) 46 rfl rfl rfl (run_extend (f := itemC) (base := base) (l1 := l ++ hs) (l2 := [h]) Tryz.underlying46 HI.out hz0 hz1 hz2 rfl (by decide) (HO.out.own.alloc _) (Sl.one (Blk.new _ _ _) (by rfl) rfl (by decide) (by decide)) (ones44 _) ?_ ?_ ?_) ?_)
  ·have := HLN.out; have := HN0.out; simp only [List.length_singleton]; unfold maxLen; omega
  ·have := HLN.out; have := HN0.out; simp only [List.length_singleton]; omega
  ·simp; omega
  ·intro v9 w9 hO9 hg9 hat9
   (try simp only [List.append_assoc] at hO9)
   obtain ⟨A9, c9, hv9, hsl9⟩ := hO9.sl
   clear hsl9
   generalize hn9 : (l ++ (hs ++ [h])).length = n9 at hv9
   clear hn9
   subst hv9
   have hS2 : (W2.alloc (.cells #[.int .i64 h.cat, .int .i64 h.from_, .int .i64 h.until_, .int .i64 h.cost, .slice h.tA h.target.length h.tC, .int .i64 h.term] 68)).heap.size = W2.heap.size + 1 := by simp
   have hX9 : Bx O' w9 w0.heap.size 46 u := (HX.out.alloc _).grown hg9 (fun e => by
    rcases H7.out _ e.symm with h | h
    ·have := (HV.out.blk h).2.1; omega
    ·omega)
   have z9 := hX9.frozen
   have p9 := hX9.cell
   have hl9 := hX9.lt
   have hz9 := hg9.size
   have hrow : ∀ g, u.ownBlock = some g → ¬ O' g := HO.out.no
   have hat' : ∀ g, (Value.slice A9 n9 c9).ownBlock = some g → u.ownBlock = some g ∨ W2.heap.size + 1 ≤ g := fun g hg => by rcases hat9 g hg with h | h; exact .inl h; exact .inr (by omega)
   have hne9 : ∀ g, (Value.slice A9 n9 c9).ownBlock = some g → g ≠ w0.heap.size := fun g hg e => by
    rcases hat' g hg with h | h
    ·rcases H7.out g h with h' | h'
     ·have := (HV.out.blk h').2.1; omega
     ·omega
    ·omega
   have hdat : ∀ b, b < W2.heap.size → (b < base ∨ ∃ cs fz, W2.heap[b]? = some (.cells cs 9 fz)) → (w9.setCell ⟨w0.heap.size, 0, none⟩ (.slice A9 n9 c9)).heap[b]? = W2.heap[b]? := fun b hb hd => by
    have hnb : b ≠ w0.heap.size := by
     rintro rfl
     rcases hd with hd | ⟨cs, fz, hd⟩
     ·omega
     ·rw [HX.out.at_] at hd; simp at hd
    have hng : some b ≠ u.ownBlock := fun e => by
     obtain ⟨g1, g2, cur, g3⟩ := HO.out.own.blk e.symm
     rcases hd with hd | ⟨cs, fz, hd⟩
     ·omega
     ·rw [g3] at hd; simp at hd
    exact (Below.heap_setCell _ _ _ _ hnb).trans ((hg9.block b (by omega) hng).trans (Below.heap_alloc _ _ _ hb))
   have hsc9 : (w9.setCell ⟨w0.heap.size, 0, none⟩ (.slice A9 n9 c9)).heap.size = w9.heap.size := by simp [World.setCell]
   have HC9 := hide (HC.out.other hP (by rw [hsc9]; omega) hdat)
   have hO9f := hO9.keep (w' := w9.setCell ⟨w0.heap.size, 0, none⟩ (.slice A9 n9 c9)) (fun g hg => Below.heap_setCell _ _ _ _ (hne9 g hg))
   have hW2' : w0.heap.size + 1 ≤ W2.heap.size := by omega
   have HO9 : Hid (OwnO itemC 6 68 O' (w9.setCell ⟨w0.heap.size, 0, none⟩ (.slice A9 n9 c9)) base (.slice A9 n9 c9) (l ++ (hs ++ [h]))) := hide ⟨hO9f, fun g hg hOg => by
    rcases hat' g hg with h1 | h1
    ·exact hrow g h1 hOg
    ·have := HOB.out g hOg; omega⟩
   have HX9 := hide (hX9.set (.slice A9 n9 c9))
   have HK9 : Hid (KeptBut (fun b => O0 b ∨ (Value.slice A0 n0 c0).ownBlock = some b) w0 (w9.setCell ⟨w0.heap.size, 0, none⟩ (.slice A9 n9 c9))) := hide (((HK.out.alloc _).grown hg9 (fun g hg => by
    rcases H7.out g hg with h1 | h1
    ·exact .inl (.inr h1)
    ·exact .inr (by omega))).set (.slice A9 n9 c9) (.inr (Nat.le_refl _)))
   have H79 : Hid (∀ g, (Value.slice A9 n9 c9).ownBlock = some g → (Value.slice A0 n0 c0).ownBlock = some g ∨ w0.heap.size + 1 ≤ g) := hide (fun g hg => by
    rcases hat' g hg with h1 | h1
    ·exact H7.out g h1
    ·exact .inr (by omega))
   have HKR : Hid (Kept (fun b => O' b ∨ R b) W2 (w9.setCell ⟨w0.heap.size, 0, none⟩ (.slice A9 n9 c9))) := hide (((kept_alloc W2 _).grown hg9 (fun g hg hor => by
    rcases hor with h1 | h1
    ·exact hrow g hg h1
    ·rcases H7.out g hg with h2 | h2
     ·exact (HVR.out g h2).2 h1
     ·have := HR.out g (.inr h1); omega)).setCell (.slice A9 n9 c9) (fun hor => by
    rcases hor with h1 | h1
    ·exact HX.out.no h1
    ·have h2 := HR.out _ (.inr h1); dsimp only at h2; omega))
   clear hO9 hg9 hat9 hX9 hdat hO9f hat' hne9 hrow x0
   gi_wp2
   exact ⟨HKR.out, .slice A9 n9 c9, hs ++ [h], HX9.out, HO9.out, HC9.out, HK9.out, by rw [hsc9]; omega, H6.out, H79.out⟩ --(.slice A9 n9 c9), hs ++ [h], HX9.out, HO9.out, HC9.out, HK9.out, by rw [hsc9]; omega, H6.out, H79.out⟩
 case done =>
  rintro O W hch ⟨u, hs, h1, h2, h3, h4, h5, h6, h7⟩ hOb hD hOD hz
  have x0 := h1.cell
  have hxl := h1.lt
  have HO := hide h2
  have HC := hide h3
  have HK := hide h4
  have H7 := hide h7
  have HD := hide hD
  have hDl := (Array.getElem?_eq_some_iff.1 hD).1
  clear h1 h2 h3 h4 h6 h7 hOb hD
  gi_wp2
  refine leaves_mark1 (v := u) HD.out (by simp [results, Tryz.results44, go_sem]) ?_
  subst hch
  refine ⟨HK.out.put _ (.inr (by omega)), u, hs, O, rfl, HO.out.own.keep (fun g hg => World.putObj_heap_other (by rintro rfl; exact HO.out.no _ hg hOD)), HC.out.other hP (by simp) (fun b hb hd => World.putObj_heap_other (by
   rintro rfl
   rcases hd with hd | ⟨cs, fz, hd⟩
   ·omega
   ·rw [HD.out] at hd; cases hd)), fun g hg => by
   rcases H7.out g hg with h1 | h1
   ·exact .inl h1
   ·exact .inr (by omega)⟩
 case pan =>
  rintro c O W hch ⟨u, hs, h1, h2, h3, h4, h5, h6, h7⟩ hOb hD hOD hz
  have HD := hide hD
  have HK := hide h4
  have hDl := (Array.getElem?_eq_some_iff.1 hD).1
  clear h1 h2 h3 h4 h6 h7 hOb hD
  subst hch
  rw [hz1w] at HD
  go_simp
  exact leaves_panic1 HD.out ⟨HK.out.put _ (.inr (by omega)), rfl⟩
 case stop =>
  rintro c O W h
  exact h.elim
theorem Tryz_infoA42 : (Tryz.prog.info? 42).map (fun i => (i.zero, i.size, i.bytes)) = some (some (.agg #[.string ByteArray.empty, .slice none 0 0, .int .i64 0]), 3, 48) := by kernel_rfl
theorem ones50 (l : List TargH) : ∀ x ∈ l, ∀ u ∈ targC x, u.oneCell' = true := by
 intro x _ u hu
 simp only [targC, List.mem_cons, List.not_mem_nil, or_false] at hu
 rcases hu with rfl | rfl | rfl <;> rfl
def Inv50 (M : Nat → TargH → Prop) (Ok : (Nat → Prop) → World → TargH → Prop) (v : Value) (l : List TargH) (O0 : Nat → Prop) (w0 : World) (base k : Nat) (O : Nat → Prop) (W : World) : Prop :=
 ∃ (u : Value) (hs : List TargH), Bx O W w0.heap.size 34 u ∧ OwnO targC 3 42 O W base u (l ++ hs) ∧ Coll M Ok k hs O W ∧ KeptBut (fun b => O0 b ∨ v.ownBlock = some b) w0 W ∧ w0.heap.size + 1 ≤ W.heap.size ∧ (∀ b, O b → O0 b ∨ w0.heap.size + 1 ≤ b) ∧ (∀ g, u.ownBlock = some g → v.ownBlock = some g ∨ w0.heap.size + 1 ≤ g)
theorem inv_step50 {M : Nat → TargH → Prop} {Ok : (Nat → Prop) → World → TargH → Prop} {base : Nat} (hP : OkP 3 base Ok) {v : Value} {l : List TargH} {O0 : Nat → Prop} {w0 : World} : XStable (Inv50 M Ok v l O0 w0 base) := by
 rintro k O O' W W' ⟨u, hs, h1, h2, h3, h4, h5, h6, h7⟩ s
 have hO' : ∀ b, O' b → O0 b ∨ w0.heap.size + 1 ≤ b := fun b hb => by
  rcases s.owns b hb with h | h
  ·exact h6 b h
  ·exact .inr (by omega)
 refine ⟨u, hs, XStep.bx h1 s, h2.gstep s, h3.step hP s, h4.step s (fun x hx => ?_), Nat.le_trans h5 s.size, hO', h7⟩
 rcases h6 x hx with h | h
 ·exact .inl (.inl h)
 ·exact .inr (by omega)
set_option maxRecDepth 100000 in
set_option maxHeartbeats 4000000 in
theorem appendSeq50 (G : Nat) (lb : Array Value) (eg : ∀ args w, (callFunc G args).run Tryz.prog w = .ok (.enter G args) w) (N : Nat) (M : Nat → TargH → Prop) (Ok : (Nat → Prop) → World → TargH → Prop) (base : Nat) (hP : OkP 3 base Ok) (ch : Option (List PanicEntry)) (O0 R : Nat → Prop) (w0 : World)
  (hit : IterG Tryz.prog G lb N (Gives targV M Ok) ch O0 R w0) (hR : ∀ b, (O0 b ∨ R b) → b < w0.heap.size) (hbase : base ≤ w0.heap.size) (v : Value) (l : List TargH) (hv : OwnL targC 3 42 w0 base v l) (hvR : ∀ g, v.ownBlock = some g → ¬ O0 g ∧ ¬ R g)
  (hN : l.length + N ≤ 1000000) :
  Calls Tryz.prog 50 #[v, .func (.func G) #[] lb] w0 fun e w' => KeptBut (fun b => O0 b ∨ v.ownBlock = some b) w0 w' ∧ SeqEnd targC 3 42 M Ok N base l v w0.heap.size ch e w' := by
 obtain ⟨i0, hi, hz0, hz1, hz2⟩ := info_parts Tryz_infoA42
 have HI := hide hi
 clear hi
 obtain ⟨A0, c0, hve, hsl0⟩ := hv.sl
 clear hsl0
 generalize hnl0 : l.length = n0 at hve hN
 have HN0 := hide hnl0
 clear hnl0
 subst hve
 refine (callsIn_wide (n := 9)).1 (callsIn_of_wp_marks Tryz.func50 rfl trivial ?_ rfl)
 simp only [Tryz.ntmps50]
 simp only [List.size_toArray, List.length_cons, List.length_nil, Nat.reduceAdd, Nat.reduceSub, Array.replicate_succ, Array.replicate_zero, List.push_toArray, List.append_toArray, List.nil_append, List.cons_append]
 gi_wp2
 obtain ⟨w1, hw1⟩ : ∃ x, x = w0.alloc (.cells #[.slice A0 n0 c0] 34) := ⟨_, rfl⟩
 have hb1 : Below w0.heap.size w0 w1 := by rw [hw1]; exact kalloc (Below.refl _ _) _
 have hz1w : w1.heap.size = w0.heap.size + 1 := by rw [hw1]; simp
 have h01 : Inv50 M Ok (.slice A0 n0 c0) l O0 w0 base 0 O0 w1 := by
  refine ⟨.slice A0 n0 c0, [], ⟨fun h => by have := hR _ (.inl h); omega, by rw [hw1]; exact heap_new _ _⟩, ⟨by rw [List.append_nil]; exact hv.bel hb1, fun g hg h => (hvR g hg).1 h⟩, ⟨rfl, by simp, by simp⟩, .of_below hb1, by omega, fun b hb => .inl hb, fun g hg => .inl hg⟩
 rw [← hw1]
 clear hw1
 have HV := hide hv
 have HVR := hide hvR
 have HR := hide hR
 clear hv hvR
 refine wpIn_rangeX (gf := G) (lb := lb) rfl eg hit hb1.size (fun b hb => ⟨hR b hb, hb1.block b (hR b hb)⟩)
  (fun k x O W h => by obtain ⟨y, e, _⟩ := h.ex; rw [e]; rfl)
  (Inv50 M Ok (.slice A0 n0 c0) l O0 w0 base) (fun _ _ _ => False) (inv_step50 hP) (fun _ _ _ _ _ h _ => h) h01 ?body ?done ?pan ?stop
 case body =>
  rintro lp k x O O' W hkN hG hOO hNC ⟨u, hs, h1, h2, h3, h4, h5, h6, h7⟩ hOb hWz
  obtain ⟨h, rfl, hM, hOk⟩ := hG.ex
  have hOk := hP.more hOk hNC
  have hkN' : hs.length < N := by have := h3.len; omega
  simp only [targV]
  gi_wp2
  refine ⟨kept_alloc _ _, fun d o hd hst => ?_⟩
  have B0 := (Blk.new W #[.string h.text, .slice h.dA h.deps.length h.dC, .int .i64 h.term] 42).turned o hd
  have st2 : XStep O' O' W ((W.alloc (.cells #[.string h.text, .slice h.dA h.deps.length h.dC, .int .i64 h.term] 42)).putObj d o) := (XStep.of_below (kalloc (Below.refl _ _) _) fun b hb => .inl hb).trans hst
  obtain ⟨W2, hW2⟩ : ∃ x, x = (W.alloc (.cells #[.string h.text, .slice h.dA h.deps.length h.dC, .int .i64 h.term] 42)).putObj d o := ⟨_, rfl⟩
  rw [← hW2] at B0 st2 ⊢
  clear hW2 hst
  have p0 := B0.cell (v := .string h.text) 0 rfl
  have p1 := B0.cell (v := .slice h.dA h.deps.length h.dC) 1 rfl
  have p2 := B0.cell (v := .int .i64 h.term) 2 rfl
  have pl := B0.lt
  clear B0
  have HX := hide (XStep.bx h1 st2)
  have HO := hide (h2.gstep st2)
  have HC := hide ((h3.step hP st2).snoc hM (hP.step hOk st2))
  have hW2z := st2.size
  have HK : Hid (KeptBut (fun b => O0 b ∨ (Value.slice A0 n0 c0).ownBlock = some b) w0 W2) := hide (h4.step st2 (fun x hx => by
   rcases h6 x hx with h | h
   ·exact .inl (.inl h)
   ·exact .inr (by omega)))
  have x0 := HX.out.cell
  have hxl := HX.out.lt
  have H6 := hide h6
  have H7 := hide h7
  have hlen : (l ++ hs).length = l.length + hs.length := List.length_append
  have HLN := hide hlen
  have HOB := hide (show ∀ b, O' b → b < W2.heap.size from fun b hb => Nat.lt_of_lt_of_le (hOb b hb).2 hW2z)
  clear h1 h2 h3 h4 h6 h7 hOk hM hG hOO hNC h01 st2 hOb hlen
  gi_wp2_with (gi_at_builtin; refine wpListIn_append rfl (.tmp 8) (.tmp 10) 34 rfl rfl rfl (run_extend (f := targC) (base := base) (l1 := l ++ hs) (l2 := [h]) Tryz.underlying34 HI.out hz0 hz1 hz2 rfl (by decide) (HO.out.own.alloc _) (Sl.one (Blk.new _ _ _) (by rfl) rfl (by decide) (by decide)) (ones50 _) ?_ ?_ ?_) ?_)
  ·have := HLN.out; have := HN0.out; simp only [List.length_singleton]; unfold maxLen; omega
  ·have := HLN.out; have := HN0.out; simp only [List.length_singleton]; omega
  ·simp; omega
  ·intro v9 w9 hO9 hg9 hat9
   (try simp only [List.append_assoc] at hO9)
   obtain ⟨A9, c9, hv9, hsl9⟩ := hO9.sl
   clear hsl9
   generalize hn9 : (l ++ (hs ++ [h])).length = n9 at hv9
   clear hn9
   subst hv9
   have hS2 : (W2.alloc (.cells #[.string h.text, .slice h.dA h.deps.length h.dC, .int .i64 h.term] 42)).heap.size = W2.heap.size + 1 := by simp
   have hX9 : Bx O' w9 w0.heap.size 34 u := (HX.out.alloc _).grown hg9 (fun e => by
    rcases H7.out _ e.symm with h | h
    ·have := (HV.out.blk h).2.1; omega
    ·omega)
   have z9 := hX9.frozen
   have p9 := hX9.cell
   have hl9 := hX9.lt
   have hz9 := hg9.size
   have hrow : ∀ g, u.ownBlock = some g → ¬ O' g := HO.out.no
   have hat' : ∀ g, (Value.slice A9 n9 c9).ownBlock = some g → u.ownBlock = some g ∨ W2.heap.size + 1 ≤ g := fun g hg => by rcases hat9 g hg with h | h; exact .inl h; exact .inr (by omega)
   have hne9 : ∀ g, (Value.slice A9 n9 c9).ownBlock = some g → g ≠ w0.heap.size := fun g hg e => by
    rcases hat' g hg with h | h
    ·rcases H7.out g h with h' | h'
     ·have := (HV.out.blk h').2.1; omega
     ·omega
    ·omega
   have hdat : ∀ b, b < W2.heap.size → (b < base ∨ ∃ cs fz, W2.heap[b]? = some (.cells cs 3 fz)) → (w9.setCell ⟨w0.heap.size, 0, none⟩ (.slice A9 n9 c9)).heap[b]? = W2.heap[b]? := fun b hb hd => by
    have hnb : b ≠ w0.heap.size := by
     rintro rfl
     rcases hd with hd | ⟨cs, fz, hd⟩
     ·omega
     ·rw [HX.out.at_] at hd; simp at hd
    have hng : some b ≠ u.ownBlock := fun e => by
     obtain ⟨g1, g2, cur, g3⟩ := HO.out.own.blk e.symm
     rcases hd with hd | ⟨cs, fz, hd⟩
     ·omega
     ·rw [g3] at hd; simp at hd
    exact (Below.heap_setCell _ _ _ _ hnb).trans ((hg9.block b (by omega) hng).trans (Below.heap_alloc _ _ _ hb))
   have hsc9 : (w9.setCell ⟨w0.heap.size, 0, none⟩ (.slice A9 n9 c9)).heap.size = w9.heap.size := by simp [World.setCell]
   have HC9 := hide (HC.out.other hP (by rw [hsc9]; omega) hdat)
   have hO9f := hO9.keep (w' := w9.setCell ⟨w0.heap.size, 0, none⟩ (.slice A9 n9 c9)) (fun g hg => Below.heap_setCell _ _ _ _ (hne9 g hg))
   have hW2' : w0.heap.size + 1 ≤ W2.heap.size := by omega
   have HO9 : Hid (OwnO targC 3 42 O' (w9.setCell ⟨w0.heap.size, 0, none⟩ (.slice A9 n9 c9)) base (.slice A9 n9 c9) (l ++ (hs ++ [h]))) := hide ⟨hO9f, fun g hg hOg => by
    rcases hat' g hg with h1 | h1
    ·exact hrow g h1 hOg
    ·have := HOB.out g hOg; omega⟩
   have HX9 := hide (hX9.set (.slice A9 n9 c9))
   have HK9 : Hid (KeptBut (fun b => O0 b ∨ (Value.slice A0 n0 c0).ownBlock = some b) w0 (w9.setCell ⟨w0.heap.size, 0, none⟩ (.slice A9 n9 c9))) := hide (((HK.out.alloc _).grown hg9 (fun g hg => by
    rcases H7.out g hg with h1 | h1
    ·exact .inl (.inr h1)
    ·exact .inr (by omega))).set (.slice A9 n9 c9) (.inr (Nat.le_refl _)))
   have H79 : Hid (∀ g, (Value.slice A9 n9 c9).ownBlock = some g → (Value.slice A0 n0 c0).ownBlock = some g ∨ w0.heap.size + 1 ≤ g) := hide (fun g hg => by
    rcases hat' g hg with h1 | h1
    ·exact H7.out g h1
    ·exact .inr (by omega))
   have HKR : Hid (Kept (fun b => O' b ∨ R b) W2 (w9.setCell ⟨w0.heap.size, 0, none⟩ (.slice A9 n9 c9))) := hide (((kept_alloc W2 _).grown hg9 (fun g hg hor => by
    rcases hor with h1 | h1
    ·exact hrow g hg h1
    ·rcases H7.out g hg with h2 | h2
     ·exact (HVR.out g h2).2 h1
     ·have := HR.out g (.inr h1); omega)).setCell (.slice A9 n9 c9) (fun hor => by
    rcases hor with h1 | h1
    ·exact HX.out.no h1
    ·have h2 := HR.out _ (.inr h1); dsimp only at h2; omega))
   clear hO9 hg9 hat9 hX9 hdat hO9f hat' hne9 hrow x0
   gi_wp2
   exact ⟨HKR.out, .slice A9 n9 c9, hs ++ [h], HX9.out, HO9.out, HC9.out, HK9.out, by rw [hsc9]; omega, H6.out, H79.out⟩ --(.slice A9 n9 c9), hs ++ [h], HX9.out, HO9.out, HC9.out, HK9.out, by rw [hsc9]; omega, H6.out, H79.out⟩
 case done =>
  rintro O W hch ⟨u, hs, h1, h2, h3, h4, h5, h6, h7⟩ hOb hD hOD hz
  have x0 := h1.cell
  have hxl := h1.lt
  have HO := hide h2
  have HC := hide h3
  have HK := hide h4
  have H7 := hide h7
  have HD := hide hD
  have hDl := (Array.getElem?_eq_some_iff.1 hD).1
  clear h1 h2 h3 h4 h6 h7 hOb hD
  gi_wp2
  refine leaves_mark1 (v := u) HD.out (by simp [results, Tryz.results50, go_sem]) ?_
  subst hch
  refine ⟨HK.out.put _ (.inr (by omega)), u, hs, O, rfl, HO.out.own.keep (fun g hg => World.putObj_heap_other (by rintro rfl; exact HO.out.no _ hg hOD)), HC.out.other hP (by simp) (fun b hb hd => World.putObj_heap_other (by
   rintro rfl
   rcases hd with hd | ⟨cs, fz, hd⟩
   ·omega
   ·rw [HD.out] at hd; cases hd)), fun g hg => by
   rcases H7.out g hg with h1 | h1
   ·exact .inl h1
   ·exact .inr (by omega)⟩
 case pan =>
  rintro c O W hch ⟨u, hs, h1, h2, h3, h4, h5, h6, h7⟩ hOb hD hOD hz
  have HD := hide hD
  have HK := hide h4
  have hDl := (Array.getElem?_eq_some_iff.1 hD).1
  clear h1 h2 h3 h4 h6 h7 hOb hD
  subst hch
  rw [hz1w] at HD
  go_simp
  exact leaves_panic1 HD.out ⟨HK.out.put _ (.inr (by omega)), rfl⟩
 case stop =>
  rintro c O W h
  exact h.elim
end Go.Proofs.YtkfdafeonhnloaaGreatDoor
