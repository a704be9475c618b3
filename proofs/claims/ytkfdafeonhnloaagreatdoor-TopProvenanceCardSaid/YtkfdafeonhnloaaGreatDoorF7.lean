/-
 translate.words: the walk at a node.
-/
import Derived.Test.YtkfdafeonhnloaaGreatDoorGM24
namespace Go.Mine
open Go.RowKit
theorem Sl.cap {α : Type} {f : α → List Value} {sz : Nat} {w : World} {A : Option Addr} {c : Nat} {l : List α} (h : Sl f sz w A c l) : Sl f sz w A l.length l :=
 ⟨Nat.le_refl _, by have := h.le; have := h.max; omega, h.size, h.cells⟩
end Go.Mine
namespace Go.Proofs.YtkfdafeonhnloaaGreatDoor
open Go.RowKit Go.Shelf Go.Mine Go.Mine.C
attribute [local go_sem] Oper.semAt_some
theorem e90 : ∀ args w, (callFunc 90 args).run Tryz.prog w = .ok (.enter 90 args) w := enters_of Tryz.func90 (by kernel_rfl) rfl
section
variable {gB pB iB wB yB lp N base m tb : Nat} {g : GramH} {iA : Option Addr} {iC : Nat} {items : List ItemH} {w0 : World} {L : List TargM} {J : Nat → (Nat → Prop) → World → Prop} {Jx : Unit → (Nat → Prop) → World → Prop}
set_option maxRecDepth 100000 in
set_option maxHeartbeats 8000000 in
theorem walk56_node (hJ : XStable J) (hJx : XStable Jx) (hY : TgYield (fun b => b < w0.heap.size) lp N base m tb L J Jx (fun _ => False)) (n : Nat) (ih : WalkSpec gB pB iB wB yB lp N base g iA iC items w0 L J Jx n) (hG : GramOk w0 g)
  (ri : Nat) (xcat : ByteArray) (xno : Int) (pA : Option Addr) (pC : Nat) (parts : List PartM) (gvA : Option Addr) (gvC : Nat) (gives : List GiveM) (xco : Int) (hx : g.rules[ri]? = some ⟨xcat, xno, pA, pC, parts, gvA, gvC, gives, xco⟩) (hpl : parts.length ≤ 4)
  (hro : RuleOk ⟨xcat, xno, parts, gives, xco⟩) (f u : Int) (hf : 0 ≤ f) (hfu : f < u) (hu : u ≤ 16) (kA : Option Addr) (kC : Nat) (kids : List TreeH) (ks : List Tree) (hcov : Cov (g.rules.map RuleH.m) (items.map ItemH.m) n parts ks f u) (hks : Sl treeC 5 w0 kA kC kids) (hkl : kids.length = ks.length)
  (hkk : ∀ (j : Nat) (h : TreeH) (t : Tree), kids[j]? = some h → ks[j]? = some t → TreeR (fun _ => False) w0 h t) (above : List Int) (A : Option Addr) (c k0 : Nat) (O : Nat → Prop) (W : World) (hal : above.length + 4 * (n + 1) ≤ 100000)
  (hk : k0 + (gives.flatMap (giveF (g.rules.map RuleH.m) (items.map ItemH.m) n parts ks f u above)).length ≤ N) (hL : ∀ j s, (gives.flatMap (giveF (g.rules.map RuleH.m) (items.map ItemH.m) n parts ks f u above))[j]? = some s → L[k0 + j]? = some s)
  (ha : Sl ic 1 W A c above) (haE : ∀ a, A = some a → above ≠ [] → O a.block ∨ a.block < w0.heap.size) (hIn : WkIn gB pB iB wB yB lp g iA items.length iC w0 base O W) (hj : J k0 O W) (hO : ∀ b, O b → base ≤ b ∧ b < W.heap.size) :
  Calls Tryz.prog 56 #[treeV ⟨ri, -1, f, u, kA, kC, kids⟩, .slice A above.length c, .pointer (some ⟨iB, 0, none⟩), .pointer (some ⟨pB, 0, none⟩), .pointer (some ⟨gB, 0, none⟩), .pointer (some ⟨wB, 0, none⟩)] W fun e W' => Kept (fun b => O b ∨ b < w0.heap.size) W W' ∧
   ((e = .returned (.bool true) ∧ J (k0 + (gives.flatMap (giveF (g.rules.map RuleH.m) (items.map ItemH.m) n parts ks f u above)).length) O W') ∨ (e = .returned (.bool false) ∧ Jx () O W')) := by
 obtain ⟨GF, hGF⟩ : ∃ GF, GF = giveF (g.rules.map RuleH.m) (items.map ItemH.m) n parts ks f u above := ⟨_, rfl⟩
 rw [← hGF] at hk hL ⊢
 have HGF := hide hGF
 clear hGF
 obtain ⟨i0, hi, hz0, hz1, hz2⟩ := info_parts Tryz_infoA3
 have HI := hide hi
 clear hi
 have hzW := Nat.le_trans hIn.size.1 hIn.size.2
 have hrW := hG.rules.low hzW hIn.same
 obtain ⟨x', rb, ro, hx', _, hAr, hrbw, d0, d1, d2, d3, d4⟩ := rule_at hrW (lt_of_get hx)
 obtain rfl : (⟨xcat, xno, pA, pC, parts, gvA, gvC, gives, xco⟩ : RuleH) = x' := by rw [hx] at hx'; exact Option.some.inj hx'
 dsimp only at d0 d1 d2 d3 d4
 have hrok := hG.rule _ (List.mem_of_getElem? hx)
 have hps : Sl partC 3 w0 pA pC parts := hrok.parts
 have hgs : Sl giveC 2 w0 gvA gvC gives := hrok.gives
 have hri := lt_of_get hx
 have hrle := hrW.le
 have hrmx := hrW.max
 have hale := ha.le
 have hamx := ha.max
 have hple := hps.le
 have hpmx := hps.max
 have hgle := hgs.le
 have hgmx := hgs.max
 have hkle := hks.le
 have hkmx := hks.max
 have g5 := hIn.gb.cell (v := .slice g.rA g.rules.length g.rC) 5 rfl
 have gl := hIn.gb.lt
 obtain ⟨W3, hW3⟩ : ∃ W3, W3 = ((W.alloc (.cells #[.int .i64 ri, .int .i64 (-1), .int .i64 f, .int .i64 u, .slice kA kids.length kC] 52)).alloc (.cells #[.string xcat, .int .i64 xno, .slice pA parts.length pC, .slice gvA gives.length gvC, .int .i64 xco] 111)).alloc (.cells #[.slice A above.length above.length] 31) := ⟨_, rfl⟩
 have hb3 : Below W.heap.size W W3 := by rw [hW3]; exact kalloc (kalloc (kalloc (Below.refl _ _) _) _) _
 have hz3 : W3.heap.size = W.heap.size + 3 := by rw [hW3]; simp
 have hT6 : Blk W3 W.heap.size 52 #[.int .i64 ri, .int .i64 (-1), .int .i64 f, .int .i64 u, .slice kA kids.length kC] := by rw [hW3]; exact ((Blk.new W _ _).alloc _).alloc _
 have hT12 : Blk W3 (W.heap.size + 1) 111 #[.string xcat, .int .i64 xno, .slice pA parts.length pC, .slice gvA gives.length gvC, .int .i64 xco] := by rw [hW3]; exact (Blk.new1 W _ _ _).alloc _
 have hT13 : Blk W3 (W.heap.size + 2) 31 #[.slice A above.length above.length] := by rw [hW3]; exact Blk.new2 W _ _ _ _
 have K58 := hide (literals58 ⟨xcat, xno, pA, pC, parts, gvA, gvC, gives, xco⟩ ⟨ri, -1, f, u, kA, kC, kids⟩ W3)
 simp only [ruleV, treeV] at K58
 obtain ⟨_, hcnt, hcovk⟩ := cov_each hcov
 have hun : kids.map (fun h => h.until_) = ks.map litsGo.untilT := by
  refine List.ext_getElem? fun j => ?_
  rw [List.getElem?_map, List.getElem?_map]
  cases h1 : kids[j]? with
  | none =>
   have : ks[j]? = none := by rw [List.getElem?_eq_none_iff] at h1 ⊢; omega
   rw [this]; rfl
  | some h =>
   have hlt := (List.getElem?_eq_some_iff.1 h1).1
   have h2 : ks[j]? = some ks[j] := List.getElem?_eq_getElem (by omega)
   rw [h2]
   exact congrArg some (hkk j h _ h1 h2).until_
 have hub : ∀ h ∈ kids, 0 ≤ h.until_ ∧ h.until_ ≤ 16 := fun h hh => by
  obtain ⟨j, hjl, rfl⟩ := List.mem_iff_getElem.1 hh
  have h2 : ks[j]? = some ks[j] := List.getElem?_eq_getElem (by omega)
  obtain ⟨c', f', u', e1, e2, e3⟩ := hcovk _ (List.mem_of_getElem? h2)
  have h3 := (hkk j _ _ (List.getElem?_eq_getElem hjl) h2).until_
  have h4 := WF.until_ e1
  have h5 := WF.lt e1
  rw [h3, h4]; omega
 have hcnt' : parts.countP PartM.isCat = kids.length := by omega
 have hll := lits_len parts ks f
 have hzA : ∀ a, A = some a → above ≠ [] → a.block < W.heap.size := ha.lt
 have HHA := hide ha
 have HHE := hide haE
 have HIN := hide hIn
 have HJ := hide hJ
 have HJX := hide hJx
 have HY := hide hY
 have HIH := hide ih
 have HL := hide hL
 have HN := hide hk
 have HJ0 := hide hj
 have HOB := hide hO
 have HAL := hide hal
 have HPS := hide hps
 have HGS := hide hgs
 have HKS := hide hks
 have HKK := hide hkk
 have HRO := hide hro
 have HCOV := hide hcov
 have HCK := hide hcovk
 have HUN := hide hun
 have HUB := hide hub
 have HCNT := hide hcnt'
 have HLL := hide hll
 have HB3 := hide hb3
 have HZ3 := hide hz3
 have HT6 := hide hT6
 have HT12 := hide hT12
 have HT13 := hide hT13
 have HX := hide hx
 have HZA := hide hzA
 rw [hAr] at g5
 clear ha haE hIn hJ hJx hY ih hL hk hj hO hal hps hgs hks hkk hro hcov hcovk hun hub hcnt' hcnt hll hb3 hz3 hT6 hT12 hT13 hx hx' hzA hrok hrW hzW hkl
 simp only [treeV]
 refine (callsIn_wide (n := 9)).1 (callsIn_of_wp_marks Tryz.func56 rfl trivial ?_ rfl)
 simp only [Tryz.ntmps56]
 simp only [List.size_toArray, List.length_cons, List.length_nil, Nat.reduceAdd, Nat.reduceSub, Array.replicate_succ, Array.replicate_zero, List.push_toArray, List.append_toArray, List.nil_append, List.cons_append]
 gi_wp2_with fail
 rw [← hW3]
 refine (callsIn_wide.2 K58.out).mono ?_
 rintro e W4 ⟨rfl, htb, hrb, hb4⟩
 have hz4 := hb4.size
 have hW34 := HZ3.out
 have HB4 := hide hb4
 have HTB := hide htb
 have HRB := hide hrb
 have HBW4 := hide (kcall HB3.out hb4)
 have h4W := HBW4.out.size
 have hsame4 : ∀ b, b < w0.heap.size → W4.heap[b]? = w0.heap[b]? := fun b hb => (HBW4.out.block b (by have := HIN.out.size; omega)).trans (HIN.out.same b hb)
 have hw04 : w0.heap.size ≤ W4.heap.size := by have := HIN.out.size; omega
 have hit := literals90 (W3.heap.size + 1) W3.heap.size ri (-1) f u kA kC kids xcat xno pA gvA pC gvC parts gives.length xco ks (fun b => b < W4.heap.size ∧ b ≠ W.heap.size + 2) W4 htb hrb (HKS.out.low hw04 hsame4) (HPS.out.low hw04 hsame4)
  ⟨⟨htb.lt, by omega⟩, ⟨hrb.lt, by omega⟩⟩ (fun a ha hn => ⟨Nat.lt_of_lt_of_le (HKS.out.lt a ha hn) hw04, by have := HKS.out.lt a ha hn; have := HIN.out.size; omega⟩) (fun a ha hn => ⟨Nat.lt_of_lt_of_le (HPS.out.lt a ha hn) hw04, by have := HPS.out.lt a ha hn; have := HIN.out.size; omega⟩)
  HUN.out HCNT.out HUB.out ⟨hf, by omega⟩ (by omega)
 have h04 : OwnIn A above (litsGo parts ks f) (W.heap.size + 2) W4 0 (fun _ => False) W4 := ⟨⟨_, ⟨fun h => h, (HT13.out.bel hb4).at_⟩, .inl ⟨rfl, rfl⟩⟩, KeptBut.refl _ _, fun _ h => h.elim⟩
 clear hb4 htb hrb K58 hsame4 hW3 hW34 d0 d1 d2 d3 d4 g5 gl
 gi_wp2_with fail
 refine wpIn_rangeX (gf := 90) (lb := #[.pointer (some ⟨W3.heap.size + 1, 0, none⟩), .pointer (some ⟨W3.heap.size, 0, none⟩)]) rfl e90 hit (Nat.le_refl _) (fun b hb => by
   rcases hb with h | h
   ·exact h.elim
   ·exact ⟨h.1, rfl⟩)
  (fun k x O W h => by obtain ⟨y, _, e⟩ := h; rw [e]; rfl)
  (OwnIn A above (litsGo parts ks f) (W.heap.size + 2) W4) (fun _ _ _ => False) ownIn_step (fun _ _ _ _ _ h _ => h) h04 ?body ?done ?pan ?stop
 case pan => rintro c O W h; cases h
 case stop => rintro c O W h; exact h.elim
 case body =>
  rintro lp' k x' O' O2 W2 hkN ⟨nn, hnn, rfl⟩ hOO hNC hI hOb hWz
  gi_wp2
  refine ⟨Kept.refl _ _, fun d o hd hst => ?_⟩
  have hI2 := ownIn_step _ _ _ _ _ hI hst
  have hOb2 : ∀ b, O2 b → b < (W2.putObj d o).heap.size := fun b hb => by simpa using (hOb b hb).2
  have hWz2 : W4.heap.size ≤ (W2.putObj d o).heap.size := by simpa using hWz
  obtain ⟨Wp, hWp⟩ : ∃ x, x = W2.putObj d o := ⟨_, rfl⟩
  rw [← hWp] at hI2 hOb2 hWz2 ⊢
  have HTK := hide (take_of_get hnn)
  have hkl : k < parts.length := by have := HLL.out; omega
  clear hI hOb hWp hst hd hNC hOO hWz h04 hit
  obtain ⟨⟨v, hbx, hv⟩, hbut, hown⟩ := hI2
  have hslA : Sl ic 1 Wp A above.length above := ((HHA.out.cap.bel HBW4.out).keep (fun a ha hn hlt => hbut.keep a.block hlt (by have := HZA.out a ha hn; omega)) hbut.size)
  have HBX := hide hbx
  have HBUT := hide hbut
  have HOWN := hide hown
  have HOB2 := hide hOb2
  have y0 := hbx.cell
  have yl := hbx.lt
  have yt := hbx.frozen
  clear hbx hbut hown hOb2
  have key : ∀ (v9 : Value) (w9 : World) (row : Option Nat), OwnL ic 1 3 w9 W4.heap.size v9 (above ++ (litsGo parts ks f).take (k + 1)) → (Wp.alloc (.cells #[.int .i64 nn] 3)).grownBy w9 row → (∀ gg, row = some gg → ¬ O2 gg ∧ W4.heap.size ≤ gg ∧ gg ≠ W.heap.size + 2) → (∀ gg, v9.ownBlock = some gg → row = some gg ∨ Wp.heap.size + 1 ≤ gg) →
    Bx O2 w9 (W.heap.size + 2) 31 v ∧ Hid (Kept (fun b => O2 b ∨ (b < W4.heap.size ∧ b ≠ W.heap.size + 2)) Wp (w9.setCell ⟨W.heap.size + 2, 0, none⟩ v9) ∧ OwnIn A above (litsGo parts ks f) (W.heap.size + 2) W4 (k + 1) O2 (w9.setCell ⟨W.heap.size + 2, 0, none⟩ v9)) := by
   intro v9 w9 row ho hg hrow hat
   have hX9 : Bx O2 w9 (W.heap.size + 2) 31 v := (HBX.out.alloc _).grown hg (fun e => (hrow _ e.symm).2.2 rfl)
   have hno : ∀ gg, v9.ownBlock = some gg → ¬ O2 gg ∧ gg ≠ W.heap.size + 2 := fun gg hgg => by
    rcases hat gg hgg with h | h
    ·exact ⟨(hrow gg h).1, (hrow gg h).2.2⟩
    ·exact ⟨fun hO => by have := HOB2.out gg hO; omega, by omega⟩
   refine ⟨hX9, hide ⟨?_, ⟨⟨v9, hX9.set _, .inr ⟨Nat.succ_pos _, ho.keep (fun gg hgg => Below.heap_setCell _ _ _ _ (fun e => (hno gg hgg).2 e)), fun gg hgg => (hno gg hgg).1⟩⟩, ?_, HOWN.out⟩⟩⟩
   ·refine (((kept_alloc Wp _).grown hg (fun gg hgg hor => ?_)).setCell v9 (fun hor => ?_))
    ·have := hrow gg hgg
     rcases hor with h1 | h1
     ·exact this.1 h1
     ·omega
    ·rcases hor with h1 | h1
     ·exact HBX.out.no h1
     ·exact h1.2 rfl
   ·exact ((HBUT.out.alloc _).grown hg (fun gg hgg => .inr (hrow gg hgg).2.1)).set v9 (.inl rfl)
  have HKEY := hide @key
  clear key
  rcases hv with ⟨rfl, rfl⟩ | ⟨hk0, ho⟩
  ·have htk : above ++ (litsGo parts ks f).take (0 + 1) = above ++ [nn] := by rw [HTK.out]; rfl
   rw [htk] at HKEY
   have hale2 := HAL.out
   gi_wp2_with (gi_at_builtin; refine wpListIn_append rfl (.tmp 64) (.tmp 66) 31 rfl rfl rfl (run_full (f := ic) (l1 := above) (l2 := [nn]) Tryz.underlying31 HI.out hz0 hz1 hz2 rfl (by decide) (hslA.alloc _) (Sl.one (Blk.new _ _ _) (by rfl) rfl (by decide) (by decide)) (by simp) (ones141 _) ?_ ?_) ?_)
   ·simp only [List.length_singleton]; unfold maxLen; omega
   ·simp only [List.length_singleton]; omega
   ·intro v9 w9 hO9 hg9
    obtain ⟨hX9, HF⟩ := HKEY.out v9 w9 none (hO9.mono (by omega)) hg9 (fun gg h => by cases h) (fun gg hgg => .inr (by have := (hO9.blk hgg).1; omega))
    have z0 := hX9.cell
    have zl := hX9.lt
    have zt := hX9.frozen
    obtain ⟨A9, c9, hv9, _⟩ := hO9.sl
    generalize hn9 : (above ++ [nn]).length = n9 at hv9
    subst hv9
    clear hO9 hg9 hX9 HKEY y0 yl yt
    gi_wp2
    exact HF.out
  ·obtain ⟨A0, c0', hve, _⟩ := ho.own.sl
   generalize hn0 : (above ++ (litsGo parts ks f).take k).length = n0 at hve
   have htk : above ++ (litsGo parts ks f).take (k + 1) = above ++ ((litsGo parts ks f).take k ++ [nn]) := by rw [HTK.out]
   rw [htk] at HKEY
   have hn0b : n0 ≤ 100004 := by
    have h1 := HAL.out
    have h2 := List.length_take_le k (litsGo parts ks f)
    rw [List.length_append] at hn0
    omega
   have HN0 := hide hn0
   have HOO := hide ho
   subst hve
   clear ho hn0
   gi_wp2_with (gi_at_builtin; refine wpListIn_append rfl (.tmp 64) (.tmp 66) 31 rfl rfl rfl (run_extend (f := ic) (base := W4.heap.size) (l1 := above ++ (litsGo parts ks f).take k) (l2 := [nn]) Tryz.underlying31 HI.out hz0 hz1 hz2 rfl (by decide) (HOO.out.own.alloc _) (Sl.one (Blk.new _ _ _) (by rfl) rfl (by decide) (by decide)) (ones141 _) ?_ ?_ ?_) ?_)
   ·have := HN0.out; simp only [List.length_singleton]; unfold maxLen; omega
   ·have := HN0.out; simp only [List.length_singleton]; omega
   ·first | omega | (simp; omega)
   ·intro v9 w9 hO9 hg9 hat9
    obtain ⟨hX9, HF⟩ := HKEY.out v9 w9 _ hO9 hg9 (fun gg h => by
     have h1 := HOO.out.no gg h
     have h2 := (HOO.out.own.blk h).1
     refine ⟨h1, h2, ?_⟩
     rintro rfl
     obtain ⟨_, _, cur, h3⟩ := HOO.out.own.blk h
     have h4 := HBX.out.at_
     rw [h3] at h4
     injection h4 with h4
     injection h4 with _ h5 _
     cases h5) (fun gg hgg => by
     rcases hat9 gg hgg with h | h
     ·exact .inl h
     ·exact .inr (by omega))
    have z0 := hX9.cell
    have zl := hX9.lt
    have zt := hX9.frozen
    obtain ⟨A9, c9, hv9, _⟩ := hO9.sl
    generalize hn9 : (above ++ ((litsGo parts ks f).take k ++ [nn])).length = n9 at hv9
    subst hv9
    clear hO9 hg9 hat9 hX9 HKEY y0 yl yt
    gi_wp2
    exact HF.out
 case done =>
  rintro O' W5 hch hI hOb hD hOD hz
  obtain ⟨⟨v5, hbx, hv⟩, hbut, hown⟩ := hI
  obtain ⟨own, hown'⟩ : ∃ own, own = above ++ litsGo parts ks f := ⟨_, rfl⟩
  have hzz := hbut.size
  have h3W := HZ3.out
  have hbw5 : Below W.heap.size W W5 := HBW4.out.trans (hbut.toBelow h4W (fun x hx => by rw [hx]; omega))
  have hDl := (Array.getElem?_eq_some_iff.1 hD).1
  obtain ⟨A5, c5, rfl, hs5, hE5⟩ : ∃ A5 c5, v5 = .slice A5 own.length c5 ∧ Sl ic 1 W5 A5 c5 own ∧ ∀ a, A5 = some a → own ≠ [] → (O a.block ∨ a.block < w0.heap.size) ∨ (W.heap.size ≤ a.block ∧ a.block < W5.heap.size) := by
   rcases hv with ⟨h0, rfl⟩ | ⟨h0, ho⟩
   ·have hl0 : litsGo parts ks f = [] := List.length_eq_zero_iff.1 h0
    rw [hl0, List.append_nil] at hown'
    subst hown'
    exact ⟨A, own.length, rfl, HHA.out.cap.bel hbw5, fun a h1 h2 => .inl (HHE.out a h1 h2)⟩
   ·rw [List.take_length, ← hown'] at ho
    obtain ⟨A5, c5, rfl, hs⟩ := ho.own.sl
    have hno := (OwnL.slT (tb := 0) (O := fun b => b < W4.heap.size) ho.own (fun b hb => hb)).so.no
    exact ⟨A5, c5, rfl, hs, fun a h1 h2 => .inr ⟨by have := hno a h1 h2; omega, hs.lt a h1 h2⟩⟩
  have hol : own.length ≤ above.length + 4 := by rw [hown', List.length_append]; have := HLL.out; omega
  have HT6' := hide (Blk.but (HT6.out.bel HB4.out) hbut (by omega))
  have HT12' := hide (Blk.but (HT12.out.bel HB4.out) hbut (by omega))
  have HT13' : Hid (Blk W5 (W.heap.size + 2) 31 #[.slice A5 own.length c5]) := hide ⟨hbx.lt, hbx.at_⟩
  have HBW5 := hide hbw5
  have HS5 := hide hs5
  have HE5 := hide hE5
  have HD := hide hD
  have HOL := hide hol
  have HOWN := hide hown'
  clear hbx hv hbut hown hown' hbw5 hs5 hE5 hD hOb hOD hol h04 hit HTB HRB hch HB4 HT6 HT12 HT13 h3W
  have e2 := HT12'.out.cell (v := .slice pA parts.length pC) 2 rfl
  have el := HT12'.out.lt
  have hmm := @run_makeMap Tryz.prog
  gi_wp2_with fail
  clear e2 el hmm
  have HM0 : Hid (∃ n0 : Nat, n0 ≤ 0 ∧ MapG Tryz.prog 3 Go.Mine.kI I64 (W5.alloc (.map #[] 0)) W5.heap.size n0 (kidM parts kids 0) ((parts.take 0).countP PartM.isCat)) := hide ⟨0, Nat.le_refl _, by rw [kidM_zero]; exact MapG.made W5 Tryz.prog 3 _ _⟩
  obtain ⟨W6, hW6⟩ : ∃ W6, W6 = W5.alloc (.map #[] 0) := ⟨_, rfl⟩
  have HB6 : Hid (Below W5.heap.size W5 W6) := hide (by rw [hW6]; exact kalloc (Below.refl _ _) _)
  rw [← hW6] at HM0 ⊢
  have hz6 : W6.heap.size = W5.heap.size + 1 := by rw [hW6]; simp
  have HZ6 := hide hz6
  clear hW6 hz6
  gi_loopw [72] (fun iv wr => ∃ i : Nat, i ≤ parts.length ∧ iv = .int .i64 i ∧ Hid (∃ n0 : Nat, n0 ≤ i ∧ MapG Tryz.prog 3 Go.Mine.kI I64 wr W5.heap.size n0 (kidM parts kids i) ((parts.take i).countP PartM.isCat)) ∧ Hid (KeptBut (fun b => b = W5.heap.size) W6 wr)) (fun iv _ => parts.length - (Go.Mine.nI iv).toNat)
  case atStart => exact ⟨0, Nat.zero_le _, rfl, HM0, hide (KeptBut.refl _ _)⟩
  case round =>
   clear HM0
   obtain ⟨i, hi, rfl, HM, HKB⟩ := hrel
   have hkz := HKB.out.size
   have hz6 := HZ6.out
   have hlow : ∀ b, b < w0.heap.size → wr.heap[b]? = w0.heap[b]? := fun b hb => by
    have h1 := HIN.out.size
    have h2 := HBW5.out.size
    exact (HKB.out.keep b (by omega) (by omega)).trans ((HB6.out.block b (by omega)).trans ((HBW5.out.block b (by omega)).trans (HIN.out.same b hb)))
   have hw0r : w0.heap.size ≤ wr.heap.size := by have := HIN.out.size; have := HBW5.out.size; omega
   by_cases hlt : i < parts.length
   ·obtain ⟨p1, pb, po, hp1, _, hpA, hpbw, q0, q1, q2⟩ := part_at (HPS.out.low hw0r hlow) hlt
    obtain ⟨n0, hn0, hM⟩ := HM.out
    cases hpA
    by_cases ht : p1.text.size = 0
    ·have hcat : p1.isCat = true := decide_eq_true ht
     have hcl := count_lt hp1 hcat
     rw [HCNT.out] at hcl
     obtain ⟨x, kb, ko, hxk, _, hkA, hkb, f0, f1, f2, f3, f4⟩ := treeh_at (HKS.out.low hw0r hlow) hcl
     have hMa := hM.alloc (.cells #[.string p1.cat, .int .i64 p1.catNo, .string ByteArray.empty] 125)
     obtain ⟨w8, e8, hM8, hg8⟩ := hMa.put keyI3 Tryz.underlying123 (by unfold maxLen; omega) (k := (i : Int)) (by unfold I64; omega) (treeV x)
     have hlen := fun ty => hMa.len Tryz.underlying123 ty
     simp only [treeV] at e8
     rw [kidM_none] at hM8
     simp only [Option.isSome_none, Bool.false_eq_true, if_false] at hM8
     rw [← kidM_cat hp1 hcat hxk] at hM8
     have hct := count_take hp1
     rw [if_pos hcat] at hct
     rw [← hct] at hM8
     have HM8 : Hid (∃ n0 : Nat, n0 ≤ i + 1 ∧ MapG Tryz.prog 3 Go.Mine.kI I64 w8 W5.heap.size n0 (kidM parts kids (i + 1)) ((parts.take (i + 1)).countP PartM.isCat)) := hide ⟨_, by omega, hM8⟩
     have HKB8 := hide ((HKB.out.alloc (.cells #[.string p1.cat, .int .i64 p1.catNo, .string ByteArray.empty] 125)).grown hg8 (fun g hg => by cases hg; exact .inl rfl))
     have t4 := (((Blk.but (HT6'.out.bel HB6.out) HKB.out (by have := HT6'.out.lt; omega)))).cell (v := .slice kA kids.length kC) 4 rfl
     have tl : W.heap.size < wr.heap.size := by have := HT6'.out.lt; omega
     have htx : p1.text = ByteArray.empty := str_empty ht
     rw [htx] at q2
     cases hkA
     generalize (parts.take i).countP PartM.isCat = cn at *
     clear hM hMa hM8 hg8 hp1 hxk hct hcat ht htx hlow HM HKB
     gi_wp2
     go_roundw
     case rel => exact ⟨i + 1, by omega, by go_num, HM8, HKB8⟩
     case measure => simp [Go.Mine.nI]; omega
    ·have hcat : p1.isCat = false := decide_eq_false ht
     have g0 := str_ne ht
     have hct := count_take hp1
     rw [hcat] at hct
     simp only [Bool.false_eq_true, if_false, Nat.add_zero] at hct
     rw [← kidM_text hp1 hcat, ← hct] at hM
     have HM8 : Hid (∃ n0 : Nat, n0 ≤ i + 1 ∧ MapG Tryz.prog 3 Go.Mine.kI I64 (wr.alloc (.cells #[.string p1.cat, .int .i64 p1.catNo, .string p1.text] 125)) W5.heap.size n0 (kidM parts kids (i + 1)) ((parts.take (i + 1)).countP PartM.isCat)) := hide ⟨_, by omega, hM.alloc _⟩
     have HKB8 := hide (HKB.out.alloc (.cells #[.string p1.cat, .int .i64 p1.catNo, .string p1.text] 125))
     clear hM hp1 hct hcat ht hlow HM HKB
     gi_wp2
     go_roundw
     case rel => exact ⟨i + 1, by omega, by go_num, HM8, HKB8⟩
     case measure => simp [Go.Mine.nI]; omega
   ·obtain rfl : i = parts.length := by omega
    obtain ⟨W7, hW7⟩ : ∃ W7, W7 = wr := ⟨_, rfl⟩
    subst hW7
    have hbw7 : Below W.heap.size W W7 := (HBW5.out.trans (HB6.out.mono HBW5.out.size)).trans (HKB.out.toBelow (by have := HBW5.out.size; omega) (fun x hx => by rw [hx]; exact HBW5.out.size))
    have h5W := HBW5.out.size
    have hT6 := Blk.but (HT6'.out.bel HB6.out) HKB.out (by have := HT6'.out.lt; omega)
    have hT12 := Blk.but (HT12'.out.bel HB6.out) HKB.out (by have := HT12'.out.lt; omega)
    have hT13 := Blk.but (HT13'.out.bel HB6.out) HKB.out (by have := HT13'.out.lt; omega)
    have hD7 : W7.heap[W4.heap.size]? = some (.deferred (some [])) := (HKB.out.keep _ (by omega) (by omega)).trans ((HB6.out.block _ hDl).trans HD.out)
    have hs7 : Sl ic 1 W7 A5 c5 own := (HS5.out.bel HB6.out).keep (fun a h1 h2 _ => HKB.out.keep _ (by have := HS5.out.lt a h1 h2; omega) (by have := HS5.out.lt a h1 h2; omega)) hkz
    obtain ⟨O1, hO1⟩ : ∃ O1 : Nat → Prop, O1 = fun b => O b ∨ (W.heap.size ≤ b ∧ b < W7.heap.size) := ⟨_, rfl⟩
    obtain ⟨E, hE⟩ : ∃ E : Nat → Prop, E = fun b => O1 b ∨ b < w0.heap.size := ⟨_, rfl⟩
    have hOE : ∀ b, O b ∨ b < w0.heap.size → E b := fun b hb => by
     rw [hE, hO1]
     rcases hb with h | h
     ·exact .inl (.inl h)
     ·exact .inr h
    have hNE : ∀ b, W.heap.size ≤ b → b < W7.heap.size → E b := fun b h1 h2 => by rw [hE, hO1]; exact .inl (.inr ⟨h1, h2⟩)
    obtain ⟨n0, _, hM7⟩ := HM.out
    have hT6l := hT6.lt
    have hT12l := hT12.lt
    have hT13l := hT13.lt
    have HV : Hid (∀ wx, Kept E W7 wx → WkIn gB pB iB wB yB lp g iA items.length iC w0 base O1 wx ∧ Blk wx W.heap.size 52 #[.int .i64 ri, .int .i64 (-1), .int .i64 f, .int .i64 u, .slice kA kids.length kC] ∧ Blk wx (W.heap.size + 2) 31 #[.slice A5 own.length c5] ∧
      MapG Tryz.prog 3 Go.Mine.kI I64 wx W5.heap.size n0 (kidM parts kids parts.length) ((parts.take parts.length).countP PartM.isCat) ∧ Sl ic 1 wx A5 c5 own ∧ Sl ic 1 wx A c above ∧ Sl giveC 2 wx gvA gvC gives) := hide (fun wx hk => by
     have hz := hk.size
     refine ⟨((HIN.out.kept (Kept.of_below (R := E) hbw7) hOE).kept hk hOE).more (fun b hb => by rw [hO1]; exact .inl hb), Blk.kept hT6 hk (hNE _ (Nat.le_refl _) hT6l), Blk.kept hT13 hk (hNE _ (by omega) hT13l), hM7.heap (hk.keep _ hM7.lt (hNE _ (by omega) hM7.lt)), hs7.kept hk (fun a h1 h2 => ?_), (HHA.out.bel hbw7).kept hk (fun a h1 h2 => hOE _ (HHE.out a h1 h2)),
      HGS.out.low (by have := HIN.out.size; omega) (fun b hb => ?_)⟩
     ·rcases HE5.out a h1 h2 with h | h
      ·exact hOE _ h
      ·exact hNE _ h.1 (by omega)
     ·have h1 := HIN.out.size
      exact (hk.keep b (by omega) (hOE b (.inr hb))).trans ((hbw7.block b (by omega)).trans (HIN.out.same b hb)))
    have HFIN : Hid (∀ wx, Kept E W7 wx → wx.heap[W4.heap.size]? = some (.deferred (some [])) ∧ Kept (fun b => O b ∨ b < w0.heap.size) W (wx.putObj W4.heap.size (.deferred none)) ∧ O1 W4.heap.size) := hide (fun wx hk => by
     refine ⟨(hk.keep _ (by omega) (hNE _ h4W (by omega))).trans hD7, ?_, by rw [hO1]; exact .inr ⟨h4W, by omega⟩⟩
     have h1 : Kept (fun b => O b ∨ b < w0.heap.size) W wx := (Kept.of_below hbw7).trans (hk.mono hOE)
     exact ⟨h1.os, h1.tape, h1.output, by simpa using h1.size, fun b hb hO => (World.putObj_heap_other (by omega)).trans (h1.keep b hb hO)⟩)
    have HJ7 : Hid (J (k0 + ((gives.take 0).flatMap GF).length) O1 W7) := hide (HJ.out _ _ _ _ _ HJ0.out (XStep.of_below hbw7 fun b hb => by rw [hO1] at hb; exact hb))
    have HOB1 := hide (show ∀ b, O1 b → base ≤ b ∧ b < W7.heap.size from fun b hb => by
     rw [hO1] at hb
     have h1 := hbw7.size
     rcases hb with h | h
     ·exact ⟨(HOB.out b h).1, by have := (HOB.out b h).2; omega⟩
     ·exact ⟨by have := HIN.out.size; omega, h.2⟩)
    have HDROP : Hid (∀ b, O b → O1 b) := hide (fun b hb => by rw [hO1]; exact .inl hb)
    have HEB := hide (show ∀ b, E b ↔ (O1 b ∨ b < w0.heap.size) from fun b => by rw [hE])
    have HOS : Hid (∀ a, A5 = some a → own ≠ [] → O1 a.block ∨ a.block < w0.heap.size) := hide (fun a h1 h2 => by
     rcases HE5.out a h1 h2 with h | h
     ·rcases h with h | h
      ·exact .inl (HDROP.out _ h)
      ·exact .inr h
     ·exact .inl (by rw [hO1]; exact .inr ⟨h.1, by omega⟩))
    have HSA : Hid (∀ a, A = some a → above ≠ [] → O1 a.block ∨ a.block < w0.heap.size) := hide (fun a h1 h2 => by
     rcases HHE.out a h1 h2 with h | h
     ·exact .inl (HDROP.out _ h)
     ·exact .inr h)
    have HE13 := hide (show E W.heap.size ∧ E (W.heap.size + 2) ∧ E W5.heap.size from ⟨hNE _ (Nat.le_refl _) hT6l, hNE _ (by omega) hT13l, hNE _ h5W (by omega)⟩)
    have HBW7 := hide (show base ≤ W7.heap.size ∧ w0.heap.size ≤ W7.heap.size from ⟨by have := HIN.out.size; omega, by have := HIN.out.size; omega⟩)
    have e3 := hT12.cell (v := .slice gvA gives.length gvC) 3 rfl
    have hsn : span f u ≠ [] := fun e => by
     have := congrArg List.length e
     rw [span_len] at this; simp at this; omega
    have HSN := hide hsn
    have HSL := hide (show (span f u).length ≤ 16 by rw [span_len]; omega)
    have K57 := hide (fun w => span57 f u w hf (by omega))
    have HGF0 := hide (show ∀ y, GF y = if y.text.size = 0 then (match kidAt parts ks y.part.toNat with
      | none => []
      | some k => walkF (g.rules.map RuleH.m) (items.map ItemH.m) n k own) else [targ y.text (span f u) above (-1)] from fun y => by rw [HGF.out, HOWN.out]; rfl)
    clear HM HKB hlow hbw7 hT6 hT12 hT13 hD7 hs7 hNE hOE hO1 hE hM7 hT6l hT13l hsn hkz hw0r HT6' HT12' HT13' HBW5 HS5 HE5 HD HB6 HZ6 hz6 hDl h5W hzz HBW4
    gi_wp2_with fail
    clear e3 hT12l
    gi_loopw [92] (fun iv wx => ∃ j : Nat, j ≤ gives.length ∧ iv = .int .i64 j ∧ Hid (Kept E W7 wx) ∧ Hid (J (k0 + ((gives.take j).flatMap GF).length) O1 wx)) (fun iv _ => gives.length - (Go.Mine.nI iv).toNat)
    case atStart => exact ⟨0, Nat.zero_le _, rfl, hide (Kept.refl _ _), HJ7⟩
    case round =>
     clear HJ7
     obtain ⟨j, hj, rfl, HK, HJK⟩ := hrel
     by_cases hlt : j < gives.length
     ·obtain ⟨hIn, h6, h13, hM, hso, hsa, hsg⟩ := HV.out wr HK.out
      obtain ⟨y, yb, yo, hyj, _, hyA, hybw, y0, y1⟩ := give_at hsg hlt
      have hzk := HK.out.size
      obtain ⟨Wb, hWb⟩ : ∃ Wb, Wb = wr.alloc (.cells #[.int .i64 y.part, .string y.text] 127) := ⟨_, rfl⟩
      have hbb : Below wr.heap.size wr Wb := by rw [hWb]; exact kalloc (Below.refl _ _) _
      have hzb : Wb.heap.size = wr.heap.size + 1 := by rw [hWb]; simp
      have hB19 : Blk Wb wr.heap.size 127 #[.int .i64 y.part, .string y.text] := by rw [hWb]; exact Blk.new wr _ _
      obtain ⟨O2, hO2⟩ : ∃ O2 : Nat → Prop, O2 = fun b => O1 b ∨ b = wr.heap.size := ⟨_, rfl⟩
      obtain ⟨E2, hE2⟩ : ∃ E2 : Nat → Prop, E2 = fun b => O2 b ∨ b < w0.heap.size := ⟨_, rfl⟩
      have hEE : ∀ b, E b → E2 b := fun b hb => by
       rw [hE2, hO2]
       rcases (HEB.out b).1 hb with h | h
       ·exact .inl (.inl h)
       ·exact .inr h
      have hJb : J (k0 + ((gives.take j).flatMap GF).length) O2 Wb := HJ.out _ _ _ _ _ HJK.out (XStep.of_below hbb fun b hb => by
       rw [hO2] at hb
       rcases hb with h | h
       ·exact .inl h
       ·exact .inr (by omega))
      have hOB2 : ∀ b, O2 b → base ≤ b ∧ b < Wb.heap.size := fun b hb => by
       rw [hO2] at hb
       rcases hb with h | h
       ·exact ⟨(HOB1.out b h).1, by have := (HOB1.out b h).2; omega⟩
       ·exact ⟨by have := HBW7.out.1; omega, by omega⟩
      have hd2 : ∀ b, O1 b → O2 b := fun b hb => by rw [hO2]; exact .inl hb
      have hE19 : E2 wr.heap.size := by rw [hE2, hO2]; exact .inl (.inr rfl)
      have HS2 : Hid (∀ w', Kept E2 Wb w' → Kept E W7 w') := hide (fun w' hk => (HK.out.trans (Kept.of_below hbb)).trans (hk.mono hEE))
      have HV2 : Hid (∀ w', Kept E2 Wb w' → WkIn gB pB iB wB yB lp g iA items.length iC w0 base O2 w') := hide (fun w' hk => (HV.out w' (HS2.out w' hk)).1.more hd2)
      have hIn2 := HV2.out Wb (Kept.refl _ _)
      have HE2 := hide (show ∀ b, O2 b ∨ b < w0.heap.size → E2 b from fun b hb => by rw [hE2]; exact hb)
      have HE2' := hide (show ∀ b, E2 b → O2 b ∨ b < w0.heap.size from fun b hb => by rw [hE2] at hb; exact hb)
      have HB19 := hide hB19
      have HE19 := hide hE19
      have HJB := hide hJb
      have HO2B := hide hOB2
      have HD2 := hide hd2
      have HEE := hide hEE
      have HFL := hide (flat_take (f := GF) hyj)
      have HFE := hide (flat_take_le GF gives (j + 1))
      have HFI := hide (fun jj s (h : (GF y)[jj]? = some s) => HL.out _ _ (flat_idx (f := GF) hyj h))
      have HYM := hide (List.mem_of_getElem? hyj)
      have HZB := hide hzb
      have eg52 := e52
      have eg56 := e56
      have HEP := hide (show E2 pB ∧ E2 wB from ⟨HE2.out _ (.inl hIn2.o.2.1), HE2.out _ (.inl hIn2.o.2.2)⟩)
      have HPB := hide (fun w' (hk : Kept E2 Wb w') => (HV2.out w' hk).pb)
      have HWB := hide (fun w' (hk : Kept E2 Wb w') => (HV2.out w' hk).wb)
      have H6 := hide (fun w' (hk : Kept E2 Wb w') => (HV.out w' (HS2.out w' hk)).2.1)
      have H13 := hide (fun w' (hk : Kept E2 Wb w') => (HV.out w' (HS2.out w' hk)).2.2.1)
      have HMM := hide (fun w' (hk : Kept E2 Wb w') => (HV.out w' (HS2.out w' hk)).2.2.2.1)
      have HSO := hide (fun w' (hk : Kept E2 Wb w') => (HV.out w' (HS2.out w' hk)).2.2.2.2.1)
      have HSAB := hide (fun w' (hk : Kept E2 Wb w') => (HV.out w' (HS2.out w' hk)).2.2.2.2.2.1)
      have HRES : Hid (∀ (w4 : World) (bb : Bool) (kk : Nat), Kept E2 Wb w4 → (bb = true → J (k0 + kk) O2 w4) → (bb = false → Jx () O2 w4) → Kept E W7 w4 ∧ (bb = true → J (k0 + kk) O1 w4) ∧ (bb = false → Jx () O1 w4)) := hide (fun w4 bb kk hk h1 h2 => ⟨HS2.out w4 hk, fun e => HJ.out _ _ _ _ _ (h1 e) (XStep.drop w4 HD2.out), fun e => HJX.out _ _ _ _ _ (h2 e) (XStep.drop w4 HD2.out)⟩)
      cases hyA
      clear hIn h6 h13 hM hso hsa hsg hbb hB19 hE19 hJb hOB2 hd2 hEE hIn2 hO2 hE2 hzb hzk hyj
      by_cases hty : y.text.size = 0
      ·have hGy := HGF0.out y
       rw [if_pos hty] at hGy
       obtain ⟨hp0, p, hpj, hpc⟩ := HRO.out.part y HYM.out hty
       obtain ⟨kt, f', u', hkt, hwf, hf', hu'⟩ := (Cov.facts (fun h => WF.lt h) HCOV.out).part _ p hpj hpc
       rw [hkt] at hGy
       dsimp only at hGy
       have hcl := count_lt hpj hpc
       rw [HCNT.out] at hcl
       have hkh : kids[(parts.take y.part.toNat).countP PartM.isCat]? = some kids[(parts.take y.part.toNat).countP PartM.isCat] := List.getElem?_eq_getElem hcl
       have htr := HKK.out _ _ _ hkh hkt
       have hkm := kidM_at hp0 hpj hpc hkh
       generalize kids[(parts.take y.part.toNat).countP PartM.isCat] = kh at *
       have hy4 : y.part.toNat < parts.length := (List.getElem?_eq_some_iff.1 hpj).1
       have hcount : k0 + ((gives.take j).flatMap GF).length + (GF y).length ≤ N := by have h1 := HFL.out; have h2 := HFE.out; have h3 := HN.out; omega
       rw [hGy] at hcount HFL HFI
       have HREC : Hid (Calls Tryz.prog 56 #[treeV kh, .slice A5 own.length c5, .pointer (some ⟨iB, 0, none⟩), .pointer (some ⟨pB, 0, none⟩), .pointer (some ⟨gB, 0, none⟩), .pointer (some ⟨wB, 0, none⟩)] Wb.drew fun e W' => Kept E2 Wb W' ∧
         ∃ bb : Bool, e = .returned (.bool bb) ∧ (bb = true → J (k0 + (((gives.take j).flatMap GF).length + (walkF (g.rules.map RuleH.m) (items.map ItemH.m) n kt own).length)) O2 W') ∧ (bb = false → Jx () O2 W')) := hide (by
        have hkr : Kept E2 Wb Wb.drew := (Kept.refl _ _).drew
        refine (HIH.out kh kt p.catNo f' u' own A5 c5 (k0 + ((gives.take j).flatMap GF).length) O2 Wb.drew hwf (by omega) (by omega) htr (by have := HOL.out; have := HAL.out; omega) hcount (fun jj s h => by rw [Nat.add_assoc]; exact HFI.out jj s h) (HSO.out _ hkr) (fun a h1 h2 => by
          rcases HOS.out a h1 h2 with h | h
          ·exact .inl (HD2.out _ h)
          ·exact .inr h) (HV2.out _ hkr) (HJ.out _ _ _ _ _ HJB.out (XStep.of_below (Below.refl _ _).drew fun b hb => .inl hb)) (fun b hb => HO2B.out b hb)).mono ?_
        rintro e W' ⟨hK2, h⟩
        refine ⟨hkr.trans (hK2.mono HE2'.out), ?_⟩
        rcases h with ⟨rfl, h⟩ | ⟨rfl, h⟩
        ·exact ⟨true, rfl, fun _ => by rw [← Nat.add_assoc]; exact h, fun e => (by cases e)⟩
        ·exact ⟨false, rfl, fun e => (by cases e), fun _ => h⟩)
       simp only [treeV] at HREC
       have HLK : Hid (∀ w', Kept E2 Wb w' → (Instr.lookup 123 (.map (some W5.heap.size)) (.int .i64 y.part) false).run Tryz.prog w' = .ok (.agg #[.int .i64 kh.rule, .int .i64 kh.item, .int .i64 kh.from_, .int .i64 kh.until_, .slice kh.kA kh.kids.length kh.kC]) w') := hide (fun w' hk => by
        have := (HMM.out w' hk).look keyI3 Tryz.underlying123 (Tryz.zeroValue52 w') (k := y.part) (by unfold I64; omega)
        rw [hkm] at this
        exact this)
       have HCT := hide (show ((gives.take j).flatMap GF).length + (walkF (g.rules.map RuleH.m) (items.map ItemH.m) n kt own).length = ((gives.take (j + 1)).flatMap GF).length from HFL.out.symm)
       have htx : y.text = ByteArray.empty := str_empty hty
       rw [htx] at y1 HB19 hWb
       clear hp0 hpj hpc hkt hwf hf' hu' hGy hcl hkh htr hkm hty hcount HFI HFL htx hy4
       gi_wp2_with fail
       rw [← hWb]
       refine wpIn_wide.2 ?_
       refine Go.Mine.wp_cut (fun a a' w' => ∃ bb : Bool, a' = (((((((((((((((((((((((((((((((a.put (some 96) (a'.tmps.getD 96 undef)).put (some 97) (a'.tmps.getD 97 undef)).put (some 98) (a'.tmps.getD 98 undef)).put (some 99) (a'.tmps.getD 99 undef)).put (some 100) (a'.tmps.getD 100 undef)).put (some 101) (a'.tmps.getD 101 undef)).put (some 102) (a'.tmps.getD 102 undef)).put (some 103) (a'.tmps.getD 103 undef)).put (some 104) (a'.tmps.getD 104 undef)).put (some 105) (a'.tmps.getD 105 undef)).put (some 106) (a'.tmps.getD 106 undef)).put (some 107) (a'.tmps.getD 107 undef)).put (some 108) (a'.tmps.getD 108 undef)).put (some 109) (a'.tmps.getD 109 undef)).put (some 110) (a'.tmps.getD 110 undef)).put (some 111) (a'.tmps.getD 111 undef)).put (some 112) (a'.tmps.getD 112 undef)).put (some 113) (a'.tmps.getD 113 undef)).put (some 114) (a'.tmps.getD 114 undef)).put (some 115) (a'.tmps.getD 115 undef)).put (some 116) (a'.tmps.getD 116 undef)).put (some 117) (a'.tmps.getD 117 undef)).put (some 118) (a'.tmps.getD 118 undef)).put (some 119) (a'.tmps.getD 119 undef)).put (some 120) (a'.tmps.getD 120 undef)).put (some 121) (a'.tmps.getD 121 undef)).put (some 122) (a'.tmps.getD 122 undef)).put (some 123) (a'.tmps.getD 123 undef)).put (some 124) (a'.tmps.getD 124 undef)).put (some 125) (a'.tmps.getD 125 undef)).put (some 126) (.bool (!bb))) ∧ Kept E2 Wb w' ∧ (bb = true → J (k0 + (((gives.take j).flatMap GF).length + (walkF (g.rules.map RuleH.m) (items.map ItemH.m) n kt own).length)) O2 w') ∧ (bb = false → Jx () O2 w')) ?_ ?_
       ·skip
        (try clear HY)
        (try clear HJ)
        (try clear HJX)
        (try clear HIH)
        (try clear HL)
        (try clear HN)
        (try clear HOB)
        (try clear HAL)
        (try clear HPS)
        (try clear HGS)
        (try clear HKS)
        (try clear HKK)
        (try clear HRO)
        (try clear HCOV)
        (try clear HCK)
        (try clear HUN)
        (try clear HUB)
        (try clear HCNT)
        (try clear HLL)
        (try clear HX)
        (try clear HZA)
        (try clear HJ0)
        (try clear HIN)
        (try clear HT6)
        (try clear HT12)
        (try clear HT13)
        (try clear HTB)
        (try clear HRB)
        (try clear HBW4)
        (try clear HOL)
        (try clear HOWN)
        (try clear HV)
        (try clear HFIN)
        (try clear HOB1)
        (try clear HDROP)
        (try clear HEB)
        (try clear HOS)
        (try clear HSA)
        (try clear HE13)
        (try clear HBW7)
        (try clear HSN)
        (try clear HSL)
        (try clear HGF0)
        (try clear HGF)
        (try clear HK)
        (try clear HJK)
        (try clear HS2)
        (try clear HV2)
        (try clear HE2)
        (try clear HE2')
        (try clear HJB)
        (try clear HO2B)
        (try clear HD2)
        (try clear HEE)
        (try clear HFL)
        (try clear HFE)
        (try clear HFI)
        (try clear HYM)
        (try clear HZB)
        (try clear HEP)
        (try clear HMM)
        (try clear HSO)
        (try clear HSAB)
        (try clear HRES)
        (try clear HCT)
        (try clear HI)
        (try clear HHA)
        (try clear HHE)
        (try clear HB3)
        (try clear HZ3)
        (try clear hWb)
        (try clear hw04)
        (try clear hz4)
        (try clear h4W)
        (try clear hlt)
        (try clear hj)
        (try clear hjl)
        (try clear hi)
        (try clear hx0)
        (try clear hf)
        (try clear hfu)
        (try clear hu)
        (try clear hpl)
        (try clear hriu)
        (try clear hri)
        (try clear hrle)
        (try clear hrmx)
        (try clear hale)
        (try clear hamx)
        (try clear hple)
        (try clear hpmx)
        (try clear hgle)
        (try clear hgmx)
        (try clear hkle)
        (try clear hkmx)
        (try clear hz0)
        (try clear hz1)
        (try clear hz2)
        (try clear hrbw)
        (try clear y0)
        (try clear hybw)
        (try clear HB4)
        (try clear hch)
        (try clear hz)
        (try clear hole)
        (try clear hT6l)
        (try clear hT12l)
        (try clear hT13l)
        (try clear hn0)
        refine wp_region_held_drew (S := fun w' => Kept E2 Wb w') (by kernel_rfl) (Kept.refl E2 Wb).drew (fun hHeld => ?_)
        (try simp only [Act.put, List.setIfInBounds_toArray, List.set_cons_zero, List.set_cons_succ])
        refine wpAnyH_take (i := 0) (v := ?_) rfl (by kernel_rfl) (by kernel_rfl) (by kernel_rfl) (fun _ _ _ h => h) (Or.inl ⟨by kernel_rfl, ?_⟩) (by assumption) ?_
        rotate_left
        ·intro w' hSw
         go_simp
         (try go_bits)
         try with_reducible rfl
        (try simp only [Act.put, List.setIfInBounds_toArray, List.set_cons_zero, List.set_cons_succ])
        refine wpAnyH_take (i := 1) (v := ?_) rfl (by kernel_rfl) (by kernel_rfl) (by kernel_rfl) (fun _ _ _ h => h) (Or.inl ⟨by kernel_rfl, ?_⟩) (by assumption) ?_
        rotate_left
        ·intro w' hSw
         have m0 := (Blk.kept HB19.out hSw HE19.out).cell (v := .string ByteArray.empty) 1 rfl
         go_simp
         (try go_bits)
         try with_reducible rfl
        (try simp only [Act.put, List.setIfInBounds_toArray, List.set_cons_zero, List.set_cons_succ])
        refine wpAnyH_take (i := 2) (v := ?_) rfl (by kernel_rfl) (by kernel_rfl) (by kernel_rfl) (fun _ _ _ h => h) (Or.inl ⟨by kernel_rfl, ?_⟩) (by assumption) ?_
        rotate_left
        ·intro w' hSw
         go_simp
         (try go_bits)
         try with_reducible rfl
        (try simp only [Act.put, List.setIfInBounds_toArray, List.set_cons_zero, List.set_cons_succ])
        refine wpAnyH_take (i := 3) (v := ?_) rfl (by kernel_rfl) (by kernel_rfl) (by kernel_rfl) (fun _ _ _ h => h) (Or.inl ⟨by kernel_rfl, ?_⟩) (by assumption) ?_
        rotate_left
        ·intro w' hSw
         go_simp
         (try go_bits)
         try with_reducible rfl
        (try simp only [Act.put, List.setIfInBounds_toArray, List.set_cons_zero, List.set_cons_succ])
        refine wpAnyH_take (i := 4) (v := undef) rfl (by kernel_rfl) (by kernel_rfl) (by kernel_rfl) (fun _ _ _ h => h) (Or.inr ⟨by kernel_rfl, rfl⟩) (by assumption) ?_
        (try simp only [Act.put, List.setIfInBounds_toArray, List.set_cons_zero, List.set_cons_succ])
        refine wpAnyH_take (i := 5) (v := undef) rfl (by kernel_rfl) (by kernel_rfl) (by kernel_rfl) (fun _ _ _ h => h) (Or.inr ⟨by kernel_rfl, rfl⟩) (by assumption) ?_
        (try simp only [Act.put, List.setIfInBounds_toArray, List.set_cons_zero, List.set_cons_succ])
        refine wpAnyH_take (i := 6) (v := undef) rfl (by kernel_rfl) (by kernel_rfl) (by kernel_rfl) (fun _ _ _ h => h) (Or.inr ⟨by kernel_rfl, rfl⟩) (by assumption) ?_
        (try simp only [Act.put, List.setIfInBounds_toArray, List.set_cons_zero, List.set_cons_succ])
        refine wpAnyH_take (i := 7) (v := undef) rfl (by kernel_rfl) (by kernel_rfl) (by kernel_rfl) (fun _ _ _ h => h) (Or.inr ⟨by kernel_rfl, rfl⟩) (by assumption) ?_
        (try simp only [Act.put, List.setIfInBounds_toArray, List.set_cons_zero, List.set_cons_succ])
        refine wpAnyH_take (i := 8) (v := undef) rfl (by kernel_rfl) (by kernel_rfl) (by kernel_rfl) (fun _ _ _ h => h) (Or.inr ⟨by kernel_rfl, rfl⟩) (by assumption) ?_
        (try simp only [Act.put, List.setIfInBounds_toArray, List.set_cons_zero, List.set_cons_succ])
        refine wpAnyH_take (i := 9) (v := undef) rfl (by kernel_rfl) (by kernel_rfl) (by kernel_rfl) (fun _ _ _ h => h) (Or.inr ⟨by kernel_rfl, rfl⟩) (by assumption) ?_
        (try simp only [Act.put, List.setIfInBounds_toArray, List.set_cons_zero, List.set_cons_succ])
        refine wpAnyH_take (i := 10) (v := undef) rfl (by kernel_rfl) (by kernel_rfl) (by kernel_rfl) (fun _ _ _ h => h) (Or.inr ⟨by kernel_rfl, rfl⟩) (by assumption) ?_
        (try simp only [Act.put, List.setIfInBounds_toArray, List.set_cons_zero, List.set_cons_succ])
        refine wpAnyH_take (i := 11) (v := undef) rfl (by kernel_rfl) (by kernel_rfl) (by kernel_rfl) (fun _ _ _ h => h) (Or.inr ⟨by kernel_rfl, rfl⟩) (by assumption) ?_
        (try simp only [Act.put, List.setIfInBounds_toArray, List.set_cons_zero, List.set_cons_succ])
        refine wpAnyH_take (i := 12) (v := undef) rfl (by kernel_rfl) (by kernel_rfl) (by kernel_rfl) (fun _ _ _ h => h) (Or.inr ⟨by kernel_rfl, rfl⟩) (by assumption) ?_
        (try simp only [Act.put, List.setIfInBounds_toArray, List.set_cons_zero, List.set_cons_succ])
        refine wpAnyH_take (i := 13) (v := undef) rfl (by kernel_rfl) (by kernel_rfl) (by kernel_rfl) (fun _ _ _ h => h) (Or.inr ⟨by kernel_rfl, rfl⟩) (by assumption) ?_
        (try simp only [Act.put, List.setIfInBounds_toArray, List.set_cons_zero, List.set_cons_succ])
        refine wpAnyH_take (i := 14) (v := undef) rfl (by kernel_rfl) (by kernel_rfl) (by kernel_rfl) (fun _ _ _ h => h) (Or.inr ⟨by kernel_rfl, rfl⟩) (by assumption) ?_
        (try simp only [Act.put, List.setIfInBounds_toArray, List.set_cons_zero, List.set_cons_succ])
        refine wpAnyH_take (i := 15) (v := ?_) rfl (by kernel_rfl) (by kernel_rfl) (by kernel_rfl) (fun _ _ _ h => h) (Or.inl ⟨by kernel_rfl, ?_⟩) (by assumption) ?_
        rotate_left
        ·intro w' hSw
         go_simp
         (try go_bits)
         try with_reducible rfl
        (try simp only [Act.put, List.setIfInBounds_toArray, List.set_cons_zero, List.set_cons_succ])
        refine wpAnyH_take (i := 16) (v := ?_) rfl (by kernel_rfl) (by kernel_rfl) (by kernel_rfl) (fun _ _ _ h => h) (Or.inl ⟨by kernel_rfl, ?_⟩) (by assumption) ?_
        rotate_left
        ·intro w' hSw
         go_simp
         (try go_bits)
         try with_reducible rfl
        (try simp only [Act.put, List.setIfInBounds_toArray, List.set_cons_zero, List.set_cons_succ])
        refine wpAnyH_take (i := 17) (v := ?_) rfl (by kernel_rfl) (by kernel_rfl) (by kernel_rfl) (fun _ _ _ h => h) (Or.inl ⟨by kernel_rfl, ?_⟩) (by assumption) ?_
        rotate_left
        ·intro w' hSw
         go_simp
         (try go_bits)
         try with_reducible rfl
        (try simp only [Act.put, List.setIfInBounds_toArray, List.set_cons_zero, List.set_cons_succ])
        refine wpAnyH_take (i := 18) (v := ?_) rfl (by kernel_rfl) (by kernel_rfl) (by kernel_rfl) (fun _ _ _ h => h) (Or.inl ⟨by kernel_rfl, ?_⟩) (by assumption) ?_
        rotate_left
        ·intro w' hSw
         have m0 := (Blk.kept HB19.out hSw HE19.out).cell (v := .string ByteArray.empty) 1 rfl
         go_simp
         (try go_bits)
         try with_reducible rfl
        (try simp only [Act.put, List.setIfInBounds_toArray, List.set_cons_zero, List.set_cons_succ])
        refine wpAnyH_take (i := 19) (v := ?_) rfl (by kernel_rfl) (by kernel_rfl) (by kernel_rfl) (fun _ _ _ h => h) (Or.inl ⟨by kernel_rfl, ?_⟩) (by assumption) ?_
        rotate_left
        ·intro w' hSw
         go_simp
         (try go_bits)
         try with_reducible rfl
        (try simp only [Act.put, List.setIfInBounds_toArray, List.set_cons_zero, List.set_cons_succ])
        refine wpAnyH_take (i := 20) (v := ?_) rfl (by kernel_rfl) (by kernel_rfl) (by kernel_rfl) (fun _ _ _ h => h) (Or.inl ⟨by kernel_rfl, ?_⟩) (by assumption) ?_
        rotate_left
        ·intro w' hSw
         go_simp
         (try go_bits)
         try with_reducible rfl
        (try simp only [Act.put, List.setIfInBounds_toArray, List.set_cons_zero, List.set_cons_succ])
        refine wpAnyH_take (i := 21) (v := ?_) rfl (by kernel_rfl) (by kernel_rfl) (by kernel_rfl) (fun _ _ _ h => h) (Or.inl ⟨by kernel_rfl, ?_⟩) (by assumption) ?_
        rotate_left
        ·intro w' hSw
         have m0 := (HWB.out w' hSw).cell (v := _) 0 rfl
         go_simp
         (try go_bits)
         try with_reducible rfl
        (try simp only [Act.put, List.setIfInBounds_toArray, List.set_cons_zero, List.set_cons_succ])
        refine wpAnyH_take (i := 22) (v := ?_) rfl (by kernel_rfl) (by kernel_rfl) (by kernel_rfl) (fun _ _ _ h => h) (Or.inl ⟨by kernel_rfl, ?_⟩) (by assumption) ?_
        rotate_left
        ·intro w' hSw
         go_simp
         (try go_bits)
         try with_reducible rfl
        (try simp only [Act.put, List.setIfInBounds_toArray, List.set_cons_zero, List.set_cons_succ])
        refine wpAnyH_take (i := 23) (v := ?_) rfl (by kernel_rfl) (by kernel_rfl) (by kernel_rfl) (fun _ _ _ h => h) (Or.inl ⟨by kernel_rfl, ?_⟩) (by assumption) ?_
        rotate_left
        ·intro w' hSw
         go_simp
         (try go_bits)
         try with_reducible rfl
        (try simp only [Act.put, List.setIfInBounds_toArray, List.set_cons_zero, List.set_cons_succ])
        refine wpAnyH_take (i := 24) (v := ?_) rfl (by kernel_rfl) (by kernel_rfl) (by kernel_rfl) (fun _ _ _ h => h) (Or.inl ⟨by kernel_rfl, ?_⟩) (by assumption) ?_
        rotate_left
        ·intro w' hSw
         have m0 := (Blk.kept HB19.out hSw HE19.out).cell (v := .int .i64 y.part) 0 rfl
         go_simp
         (try go_bits)
         try with_reducible rfl
        (try simp only [Act.put, List.setIfInBounds_toArray, List.set_cons_zero, List.set_cons_succ])
        refine wpAnyH_take (i := 25) (v := ?_) rfl (by kernel_rfl) (by kernel_rfl) (by kernel_rfl) (fun _ _ _ h => h) (Or.inl ⟨by kernel_rfl, ?_⟩) (by assumption) ?_
        rotate_left
        ·intro w' hSw
         have m0 := HLK.out w' hSw
         go_simp
         (try go_bits)
         try with_reducible rfl
        (try simp only [Act.put, List.setIfInBounds_toArray, List.set_cons_zero, List.set_cons_succ])
        refine wpAnyH_take (i := 26) (v := ?_) rfl (by kernel_rfl) (by kernel_rfl) (by kernel_rfl) (fun _ _ _ h => h) (Or.inl ⟨by kernel_rfl, ?_⟩) (by assumption) ?_
        rotate_left
        ·intro w' hSw
         have m0 := (H13.out w' hSw).cell (v := .slice A5 own.length c5) 0 rfl
         go_simp
         (try go_bits)
         try with_reducible rfl
        (try simp only [Act.put, List.setIfInBounds_toArray, List.set_cons_zero, List.set_cons_succ])
        refine wpAnyH_ready (rs := [27]) (by kernel_rfl) (by simp) (AllReadyH.cons rfl (fun K hK => ?_) AllReadyH.nil)
        go_simp
        refine HREC.out.mono ?_
        rintro e w4 ⟨hk4, bb, rfl, hj4, hx4⟩
        (try go_simp)
        refine hK.out _ _ hk4 (fun hHeld4 => ?_)
        clear hK K
        (try simp only [Act.put, List.setIfInBounds_toArray, List.set_cons_zero, List.set_cons_succ])
        refine wpAnyH_ready (rs := [28]) (by kernel_rfl) (by simp) (AllReadyH.cons rfl (fun K hK => ?_) AllReadyH.nil)
        go_simp
        refine hK.out _ _ hk4 (fun hHeld5 => ?_)
        clear hK K
        (try simp only [Act.put, List.setIfInBounds_toArray, List.set_cons_zero, List.set_cons_succ])
        refine wpAnyH_ready (rs := [29]) (by kernel_rfl) (by simp) (AllReadyH.cons rfl (fun K hK => ?_) AllReadyH.nil)
        go_simp
        refine hK.out _ _ hk4 (fun hHeld5 => ?_)
        clear hK K
        (try simp only [Act.put, List.setIfInBounds_toArray, List.set_cons_zero, List.set_cons_succ])
        refine wpAnyH_ready (rs := [30]) (by kernel_rfl) (by simp) (AllReadyH.cons rfl (fun K hK => ?_) AllReadyH.nil)
        go_simp
        refine hK.out _ _ hk4 (fun hHeld5 => ?_)
        clear hK K
        (try simp only [Act.put, List.setIfInBounds_toArray, List.set_cons_zero, List.set_cons_succ])
        refine wpAnyH_done (by kernel_rfl) ?_ _
        exact ⟨bb, by kernel_rfl, hk4, hj4, hx4⟩
       ·rintro a' w4 ⟨bb, ha, hk4, hj4, hx4⟩
        generalize a'.tmps.getD 96 undef = z96 at ha
        generalize a'.tmps.getD 97 undef = z97 at ha
        generalize a'.tmps.getD 98 undef = z98 at ha
        generalize a'.tmps.getD 99 undef = z99 at ha
        generalize a'.tmps.getD 100 undef = z100 at ha
        generalize a'.tmps.getD 101 undef = z101 at ha
        generalize a'.tmps.getD 102 undef = z102 at ha
        generalize a'.tmps.getD 103 undef = z103 at ha
        generalize a'.tmps.getD 104 undef = z104 at ha
        generalize a'.tmps.getD 105 undef = z105 at ha
        generalize a'.tmps.getD 106 undef = z106 at ha
        generalize a'.tmps.getD 107 undef = z107 at ha
        generalize a'.tmps.getD 108 undef = z108 at ha
        generalize a'.tmps.getD 109 undef = z109 at ha
        generalize a'.tmps.getD 110 undef = z110 at ha
        generalize a'.tmps.getD 111 undef = z111 at ha
        generalize a'.tmps.getD 112 undef = z112 at ha
        generalize a'.tmps.getD 113 undef = z113 at ha
        generalize a'.tmps.getD 114 undef = z114 at ha
        generalize a'.tmps.getD 115 undef = z115 at ha
        generalize a'.tmps.getD 116 undef = z116 at ha
        generalize a'.tmps.getD 117 undef = z117 at ha
        generalize a'.tmps.getD 118 undef = z118 at ha
        generalize a'.tmps.getD 119 undef = z119 at ha
        generalize a'.tmps.getD 120 undef = z120 at ha
        generalize a'.tmps.getD 121 undef = z121 at ha
        generalize a'.tmps.getD 122 undef = z122 at ha
        generalize a'.tmps.getD 123 undef = z123 at ha
        generalize a'.tmps.getD 124 undef = z124 at ha
        generalize a'.tmps.getD 125 undef = z125 at ha
        simp only [Act.put, List.setIfInBounds_toArray, List.set_cons_zero, List.set_cons_succ] at ha
        subst ha
        cases bb
        ·skip
         obtain ⟨hKN, hj5, hx5⟩ := HRES.out w4 _ _ hk4 hj4 hx4
         obtain ⟨hd1, hk1, ho1⟩ := HFIN.out _ hKN
         have HX5 := hide (HJX.out _ _ _ _ _ (HJX.out _ _ _ _ _ (hx5 rfl) (XStep.putObj w4 W4.heap.size (.deferred none) ho1)) (XStep.drop _ HDROP.out))
         have HD1 := hide hd1
         have HK1 := hide hk1
         clear hKN hj5 hx5 hd1 hk1 ho1 hk4 hj4 hx4
         gi_wp2
         refine leaves_mark1 (v := .bool false) HD1.out (by simp [results, Tryz.results56, go_sem]) ?_
         exact ⟨HK1.out, .inr ⟨rfl, HX5.out⟩⟩
        ·skip
         obtain ⟨hKN, hj5, hx5⟩ := HRES.out w4 _ _ hk4 hj4 hx4
         have HKN := hide hKN
         have HJ5 := hide (hj5 rfl)
         rw [HCT.out] at HJ5
         clear hKN hj5 hx5 hk4 hj4 hx4
         gi_wp2
         go_roundw
         case rel => exact ⟨j + 1, by omega, by go_num, HKN, HJ5⟩
         case measure => simp [Go.Mine.nI]; omega
      ·have g0 := str_ne hty
       have hGy := HGF0.out y
       rw [if_neg hty] at hGy
       rw [hGy] at HFL HFI
       have HPUT : Hid (∀ (w1 : World) (dA : Option Addr) (dC : Nat), Below Wb.heap.size Wb w1 → Sl ic 1 w1 dA dC (span f u) → Calls Tryz.prog 52 #[.string y.text, .slice dA (span f u).length dC, .slice A above.length c, .int .i64 (-1), .pointer (some ⟨yB, 0, none⟩)] w1 fun e W' => Kept E2 Wb W' ∧
         ∃ bb : Bool, e = .returned (.bool bb) ∧ (bb = true → J (k0 + (((gives.take j).flatMap GF).length + 1)) O2 W') ∧ (bb = false → Jx () O2 W')) := hide (fun w1 dA dC hb hd => by
        have hK1 : Kept E2 Wb w1 := Kept.of_below hb
        have hz := hb.size
        have hzb := HZB.out
        have hzk := HK.out.size
        refine (put52 HJ.out HY.out y.text dA A dC c (span f u) above (-1) (k0 + ((gives.take j).flatMap GF).length) O2 w1 (by have h1 := HFL.out; have h2 := HFE.out; have h3 := HN.out; simp only [List.length_singleton] at h1; omega) (HFI.out 0 _ rfl) hd (HSAB.out w1 hK1) HSN.out (by have := HSL.out; have := HAL.out; omega) (HV2.out w1 hK1).yb (HJ.out _ _ _ _ _ HJB.out (XStep.of_below hb fun b hb => .inl hb))
         (fun b hb => ⟨.inr (HO2B.out b hb).1, by have := (HO2B.out b hb).2; omega⟩) (by have := HBW7.out.1; omega) (fun b hb => by have := HBW7.out.2; omega)).mono ?_
        rintro e W' ⟨hK2, h⟩
        refine ⟨hK1.trans (hK2.mono HE2'.out), ?_⟩
        rcases h with ⟨rfl, h⟩ | ⟨rfl, h⟩
        ·exact ⟨true, rfl, fun _ => h, fun e => (by cases e)⟩
        ·exact ⟨false, rfl, fun e => (by cases e), fun _ => h⟩)
       have HCT := hide (show ((gives.take j).flatMap GF).length + 1 = ((gives.take (j + 1)).flatMap GF).length from HFL.out.symm)
       clear hGy hty HFI HFL
       gi_wp2_with fail
       rw [← hWb]
       refine wpIn_wide.2 ?_
       refine Go.Mine.wp_cut (fun a a' w' => ∃ bb : Bool, a' = (((((((((((((((((((((((((((((((a.put (some 96) (a'.tmps.getD 96 undef)).put (some 97) (a'.tmps.getD 97 undef)).put (some 98) (a'.tmps.getD 98 undef)).put (some 99) (a'.tmps.getD 99 undef)).put (some 100) (a'.tmps.getD 100 undef)).put (some 101) (a'.tmps.getD 101 undef)).put (some 102) (a'.tmps.getD 102 undef)).put (some 103) (a'.tmps.getD 103 undef)).put (some 104) (a'.tmps.getD 104 undef)).put (some 105) (a'.tmps.getD 105 undef)).put (some 106) (a'.tmps.getD 106 undef)).put (some 107) (a'.tmps.getD 107 undef)).put (some 108) (a'.tmps.getD 108 undef)).put (some 109) (a'.tmps.getD 109 undef)).put (some 110) (a'.tmps.getD 110 undef)).put (some 111) (a'.tmps.getD 111 undef)).put (some 112) (a'.tmps.getD 112 undef)).put (some 113) (a'.tmps.getD 113 undef)).put (some 114) (a'.tmps.getD 114 undef)).put (some 115) (a'.tmps.getD 115 undef)).put (some 116) (a'.tmps.getD 116 undef)).put (some 117) (a'.tmps.getD 117 undef)).put (some 118) (a'.tmps.getD 118 undef)).put (some 119) (a'.tmps.getD 119 undef)).put (some 120) (a'.tmps.getD 120 undef)).put (some 121) (a'.tmps.getD 121 undef)).put (some 122) (a'.tmps.getD 122 undef)).put (some 123) (a'.tmps.getD 123 undef)).put (some 124) (a'.tmps.getD 124 undef)).put (some 125) (a'.tmps.getD 125 undef)).put (some 126) (.bool (!bb))) ∧ Kept E2 Wb w' ∧ (bb = true → J (k0 + (((gives.take j).flatMap GF).length + 1)) O2 w') ∧ (bb = false → Jx () O2 w')) ?_ ?_
       ·skip
        (try clear HY)
        (try clear HJ)
        (try clear HJX)
        (try clear HIH)
        (try clear HL)
        (try clear HN)
        (try clear HOB)
        (try clear HAL)
        (try clear HPS)
        (try clear HGS)
        (try clear HKS)
        (try clear HKK)
        (try clear HRO)
        (try clear HCOV)
        (try clear HCK)
        (try clear HUN)
        (try clear HUB)
        (try clear HCNT)
        (try clear HLL)
        (try clear HX)
        (try clear HZA)
        (try clear HJ0)
        (try clear HIN)
        (try clear HT6)
        (try clear HT12)
        (try clear HT13)
        (try clear HTB)
        (try clear HRB)
        (try clear HBW4)
        (try clear HOL)
        (try clear HOWN)
        (try clear HV)
        (try clear HFIN)
        (try clear HOB1)
        (try clear HDROP)
        (try clear HEB)
        (try clear HOS)
        (try clear HSA)
        (try clear HE13)
        (try clear HBW7)
        (try clear HSN)
        (try clear HSL)
        (try clear HGF0)
        (try clear HGF)
        (try clear HK)
        (try clear HJK)
        (try clear HS2)
        (try clear HV2)
        (try clear HE2)
        (try clear HE2')
        (try clear HJB)
        (try clear HO2B)
        (try clear HD2)
        (try clear HEE)
        (try clear HFL)
        (try clear HFE)
        (try clear HFI)
        (try clear HYM)
        (try clear HZB)
        (try clear HEP)
        (try clear HMM)
        (try clear HSO)
        (try clear HSAB)
        (try clear HRES)
        (try clear HCT)
        (try clear HI)
        (try clear HHA)
        (try clear HHE)
        (try clear HB3)
        (try clear HZ3)
        (try clear hWb)
        (try clear hw04)
        (try clear hz4)
        (try clear h4W)
        (try clear hlt)
        (try clear hj)
        (try clear hjl)
        (try clear hi)
        (try clear hx0)
        (try clear hf)
        (try clear hfu)
        (try clear hu)
        (try clear hpl)
        (try clear hriu)
        (try clear hri)
        (try clear hrle)
        (try clear hrmx)
        (try clear hale)
        (try clear hamx)
        (try clear hple)
        (try clear hpmx)
        (try clear hgle)
        (try clear hgmx)
        (try clear hkle)
        (try clear hkmx)
        (try clear hz0)
        (try clear hz1)
        (try clear hz2)
        (try clear hrbw)
        (try clear y0)
        (try clear hybw)
        (try clear HB4)
        (try clear hch)
        (try clear hz)
        (try clear hole)
        (try clear hT6l)
        (try clear hT12l)
        (try clear hT13l)
        (try clear hn0)
        refine wp_region_held_drew (S := fun w' => Kept E2 Wb w') (by kernel_rfl) (Kept.refl E2 Wb).drew (fun hHeld => ?_)
        (try simp only [Act.put, List.setIfInBounds_toArray, List.set_cons_zero, List.set_cons_succ])
        refine wpAnyH_take (i := 0) (v := ?_) rfl (by kernel_rfl) (by kernel_rfl) (by kernel_rfl) (fun _ _ _ h => h) (Or.inl ⟨by kernel_rfl, ?_⟩) (by assumption) ?_
        rotate_left
        ·intro w' hSw
         go_simp
         (try go_bits)
         try with_reducible rfl
        (try simp only [Act.put, List.setIfInBounds_toArray, List.set_cons_zero, List.set_cons_succ])
        refine wpAnyH_take (i := 1) (v := ?_) rfl (by kernel_rfl) (by kernel_rfl) (by kernel_rfl) (fun _ _ _ h => h) (Or.inl ⟨by kernel_rfl, ?_⟩) (by assumption) ?_
        rotate_left
        ·intro w' hSw
         have m0 := (Blk.kept HB19.out hSw HE19.out).cell (v := .string y.text) 1 rfl
         go_simp
         (try go_bits)
         try with_reducible rfl
        (try simp only [Act.put, List.setIfInBounds_toArray, List.set_cons_zero, List.set_cons_succ])
        refine wpAnyH_take (i := 2) (v := ?_) rfl (by kernel_rfl) (by kernel_rfl) (by kernel_rfl) (fun _ _ _ h => h) (Or.inl ⟨by kernel_rfl, ?_⟩) (by assumption) ?_
        rotate_left
        ·intro w' hSw
         go_simp
         (try go_bits)
         try with_reducible rfl
        (try simp only [Act.put, List.setIfInBounds_toArray, List.set_cons_zero, List.set_cons_succ])
        refine wpAnyH_take (i := 3) (v := ?_) rfl (by kernel_rfl) (by kernel_rfl) (by kernel_rfl) (fun _ _ _ h => h) (Or.inl ⟨by kernel_rfl, ?_⟩) (by assumption) ?_
        rotate_left
        ·intro w' hSw
         go_simp
         (try go_bits)
         try with_reducible rfl
        (try simp only [Act.put, List.setIfInBounds_toArray, List.set_cons_zero, List.set_cons_succ])
        refine wpAnyH_take (i := 4) (v := ?_) rfl (by kernel_rfl) (by kernel_rfl) (by kernel_rfl) (fun _ _ _ h => h) (Or.inl ⟨by kernel_rfl, ?_⟩) (by assumption) ?_
        rotate_left
        ·intro w' hSw
         have m0 := (HPB.out w' hSw).cell (v := _) 0 rfl
         go_simp
         (try go_bits)
         try with_reducible rfl
        (try simp only [Act.put, List.setIfInBounds_toArray, List.set_cons_zero, List.set_cons_succ])
        refine wpAnyH_take (i := 5) (v := ?_) rfl (by kernel_rfl) (by kernel_rfl) (by kernel_rfl) (fun _ _ _ h => h) (Or.inl ⟨by kernel_rfl, ?_⟩) (by assumption) ?_
        rotate_left
        ·intro w' hSw
         go_simp
         (try go_bits)
         try with_reducible rfl
        (try simp only [Act.put, List.setIfInBounds_toArray, List.set_cons_zero, List.set_cons_succ])
        refine wpAnyH_take (i := 6) (v := ?_) rfl (by kernel_rfl) (by kernel_rfl) (by kernel_rfl) (fun _ _ _ h => h) (Or.inl ⟨by kernel_rfl, ?_⟩) (by assumption) ?_
        rotate_left
        ·intro w' hSw
         have m0 := (Blk.kept HB19.out hSw HE19.out).cell (v := .string y.text) 1 rfl
         go_simp
         (try go_bits)
         try with_reducible rfl
        (try simp only [Act.put, List.setIfInBounds_toArray, List.set_cons_zero, List.set_cons_succ])
        refine wpAnyH_take (i := 7) (v := ?_) rfl (by kernel_rfl) (by kernel_rfl) (by kernel_rfl) (fun _ _ _ h => h) (Or.inl ⟨by kernel_rfl, ?_⟩) (by assumption) ?_
        rotate_left
        ·intro w' hSw
         go_simp
         (try go_bits)
         try with_reducible rfl
        (try simp only [Act.put, List.setIfInBounds_toArray, List.set_cons_zero, List.set_cons_succ])
        refine wpAnyH_take (i := 8) (v := ?_) rfl (by kernel_rfl) (by kernel_rfl) (by kernel_rfl) (fun _ _ _ h => h) (Or.inl ⟨by kernel_rfl, ?_⟩) (by assumption) ?_
        rotate_left
        ·intro w' hSw
         have m0 := (H6.out w' hSw).cell (v := .int .i64 f) 2 rfl
         go_simp
         (try go_bits)
         try with_reducible rfl
        (try simp only [Act.put, List.setIfInBounds_toArray, List.set_cons_zero, List.set_cons_succ])
        refine wpAnyH_take (i := 9) (v := ?_) rfl (by kernel_rfl) (by kernel_rfl) (by kernel_rfl) (fun _ _ _ h => h) (Or.inl ⟨by kernel_rfl, ?_⟩) (by assumption) ?_
        rotate_left
        ·intro w' hSw
         go_simp
         (try go_bits)
         try with_reducible rfl
        (try simp only [Act.put, List.setIfInBounds_toArray, List.set_cons_zero, List.set_cons_succ])
        refine wpAnyH_take (i := 10) (v := ?_) rfl (by kernel_rfl) (by kernel_rfl) (by kernel_rfl) (fun _ _ _ h => h) (Or.inl ⟨by kernel_rfl, ?_⟩) (by assumption) ?_
        rotate_left
        ·intro w' hSw
         have m0 := (H6.out w' hSw).cell (v := .int .i64 u) 3 rfl
         go_simp
         (try go_bits)
         try with_reducible rfl
        (try simp only [Act.put, List.setIfInBounds_toArray, List.set_cons_zero, List.set_cons_succ])
        refine wpAnyH_take (i := 12) (v := ?_) rfl (by kernel_rfl) (by kernel_rfl) (by kernel_rfl) (fun _ _ _ h => h) (Or.inl ⟨by kernel_rfl, ?_⟩) (by assumption) ?_
        rotate_left
        ·intro w' hSw
         go_simp
         (try go_bits)
         try with_reducible rfl
        (try simp only [Act.put, List.setIfInBounds_toArray, List.set_cons_zero, List.set_cons_succ])
        refine wpAnyH_ready (rs := [11]) (by kernel_rfl) (by simp) (AllReadyH.cons rfl (fun K hK => ?_) AllReadyH.nil)
        go_simp
        refine (K57.out _).mono ?_
        rintro e w3 ⟨v3, rfl, ho3, hb3⟩
        replace hb3 := kcall (Below.refl Wb.heap.size Wb).drew hb3
        obtain ⟨A3, c3, rfl, hs3⟩ := ho3.sl
        (try go_simp)
        refine hK.out _ _ (Kept.of_below hb3) (fun hHeld3 => ?_)
        clear hK K
        (try simp only [Act.put, List.setIfInBounds_toArray, List.set_cons_zero, List.set_cons_succ])
        refine wpAnyH_ready (rs := [13]) (by kernel_rfl) (by simp) (AllReadyH.cons rfl (fun K hK => ?_) AllReadyH.nil)
        go_simp
        refine (HPUT.out w3 A3 c3 hb3 hs3).mono ?_
        rintro e w4 ⟨hk4, bb, rfl, hj4, hx4⟩
        (try go_simp)
        refine hK.out _ _ hk4 (fun hHeld4 => ?_)
        clear hK K
        (try simp only [Act.put, List.setIfInBounds_toArray, List.set_cons_zero, List.set_cons_succ])
        cases bb
        ·skip
         refine wpAnyH_ready (rs := [14]) (by kernel_rfl) (by simp) (AllReadyH.cons rfl (fun K hK => ?_) AllReadyH.nil)
         go_simp
         refine hK.out _ _ hk4 (fun hHeld5 => ?_)
         clear hK K
         (try simp only [Act.put, List.setIfInBounds_toArray, List.set_cons_zero, List.set_cons_succ])
         refine wpAnyH_ready (rs := [15]) (by kernel_rfl) (by simp) (AllReadyH.cons rfl (fun K hK => ?_) AllReadyH.nil)
         go_simp
         refine hK.out _ _ hk4 (fun hHeld5 => ?_)
         clear hK K
         (try simp only [Act.put, List.setIfInBounds_toArray, List.set_cons_zero, List.set_cons_succ])
         refine wpAnyH_ready (rs := [16]) (by kernel_rfl) (by simp) (AllReadyH.cons rfl (fun K hK => ?_) AllReadyH.nil)
         go_simp
         refine hK.out _ _ hk4 (fun hHeld5 => ?_)
         clear hK K
         (try simp only [Act.put, List.setIfInBounds_toArray, List.set_cons_zero, List.set_cons_succ])
         refine wpAnyH_take (i := 17) (v := undef) rfl (by kernel_rfl) (by kernel_rfl) (by kernel_rfl) (fun _ _ _ h => h) (Or.inr ⟨by kernel_rfl, rfl⟩) (by assumption) ?_
         (try simp only [Act.put, List.setIfInBounds_toArray, List.set_cons_zero, List.set_cons_succ])
         refine wpAnyH_take (i := 18) (v := undef) rfl (by kernel_rfl) (by kernel_rfl) (by kernel_rfl) (fun _ _ _ h => h) (Or.inr ⟨by kernel_rfl, rfl⟩) (by assumption) ?_
         (try simp only [Act.put, List.setIfInBounds_toArray, List.set_cons_zero, List.set_cons_succ])
         refine wpAnyH_take (i := 19) (v := undef) rfl (by kernel_rfl) (by kernel_rfl) (by kernel_rfl) (fun _ _ _ h => h) (Or.inr ⟨by kernel_rfl, rfl⟩) (by assumption) ?_
         (try simp only [Act.put, List.setIfInBounds_toArray, List.set_cons_zero, List.set_cons_succ])
         refine wpAnyH_take (i := 20) (v := undef) rfl (by kernel_rfl) (by kernel_rfl) (by kernel_rfl) (fun _ _ _ h => h) (Or.inr ⟨by kernel_rfl, rfl⟩) (by assumption) ?_
         (try simp only [Act.put, List.setIfInBounds_toArray, List.set_cons_zero, List.set_cons_succ])
         refine wpAnyH_take (i := 21) (v := undef) rfl (by kernel_rfl) (by kernel_rfl) (by kernel_rfl) (fun _ _ _ h => h) (Or.inr ⟨by kernel_rfl, rfl⟩) (by assumption) ?_
         (try simp only [Act.put, List.setIfInBounds_toArray, List.set_cons_zero, List.set_cons_succ])
         refine wpAnyH_take (i := 22) (v := undef) rfl (by kernel_rfl) (by kernel_rfl) (by kernel_rfl) (fun _ _ _ h => h) (Or.inr ⟨by kernel_rfl, rfl⟩) (by assumption) ?_
         (try simp only [Act.put, List.setIfInBounds_toArray, List.set_cons_zero, List.set_cons_succ])
         refine wpAnyH_take (i := 23) (v := undef) rfl (by kernel_rfl) (by kernel_rfl) (by kernel_rfl) (fun _ _ _ h => h) (Or.inr ⟨by kernel_rfl, rfl⟩) (by assumption) ?_
         (try simp only [Act.put, List.setIfInBounds_toArray, List.set_cons_zero, List.set_cons_succ])
         refine wpAnyH_take (i := 24) (v := undef) rfl (by kernel_rfl) (by kernel_rfl) (by kernel_rfl) (fun _ _ _ h => h) (Or.inr ⟨by kernel_rfl, rfl⟩) (by assumption) ?_
         (try simp only [Act.put, List.setIfInBounds_toArray, List.set_cons_zero, List.set_cons_succ])
         refine wpAnyH_take (i := 25) (v := undef) rfl (by kernel_rfl) (by kernel_rfl) (by kernel_rfl) (fun _ _ _ h => h) (Or.inr ⟨by kernel_rfl, rfl⟩) (by assumption) ?_
         (try simp only [Act.put, List.setIfInBounds_toArray, List.set_cons_zero, List.set_cons_succ])
         refine wpAnyH_take (i := 26) (v := undef) rfl (by kernel_rfl) (by kernel_rfl) (by kernel_rfl) (fun _ _ _ h => h) (Or.inr ⟨by kernel_rfl, rfl⟩) (by assumption) ?_
         (try simp only [Act.put, List.setIfInBounds_toArray, List.set_cons_zero, List.set_cons_succ])
         refine wpAnyH_take (i := 27) (v := undef) rfl (by kernel_rfl) (by kernel_rfl) (by kernel_rfl) (fun _ _ _ h => h) (Or.inr ⟨by kernel_rfl, rfl⟩) (by assumption) ?_
         (try simp only [Act.put, List.setIfInBounds_toArray, List.set_cons_zero, List.set_cons_succ])
         refine wpAnyH_take (i := 28) (v := undef) rfl (by kernel_rfl) (by kernel_rfl) (by kernel_rfl) (fun _ _ _ h => h) (Or.inr ⟨by kernel_rfl, rfl⟩) (by assumption) ?_
         (try simp only [Act.put, List.setIfInBounds_toArray, List.set_cons_zero, List.set_cons_succ])
         refine wpAnyH_take (i := 29) (v := undef) rfl (by kernel_rfl) (by kernel_rfl) (by kernel_rfl) (fun _ _ _ h => h) (Or.inr ⟨by kernel_rfl, rfl⟩) (by assumption) ?_
         (try simp only [Act.put, List.setIfInBounds_toArray, List.set_cons_zero, List.set_cons_succ])
         refine wpAnyH_take (i := 30) (v := ?_) rfl (by kernel_rfl) (by kernel_rfl) (by kernel_rfl) (fun _ _ _ h => h) (Or.inl ⟨by kernel_rfl, ?_⟩) (by assumption) ?_
         rotate_left
         ·intro w' hSw
          go_simp
          (try go_bits)
          try with_reducible rfl
         (try simp only [Act.put, List.setIfInBounds_toArray, List.set_cons_zero, List.set_cons_succ])
         refine wpAnyH_done (by kernel_rfl) ?_ _
         exact ⟨false, by kernel_rfl, hk4, hj4, hx4⟩
        ·skip
         refine wpAnyH_ready (rs := [14]) (by kernel_rfl) (by simp) (AllReadyH.cons rfl (fun K hK => ?_) AllReadyH.nil)
         go_simp
         refine hK.out _ _ hk4 (fun hHeld5 => ?_)
         clear hK K
         (try simp only [Act.put, List.setIfInBounds_toArray, List.set_cons_zero, List.set_cons_succ])
         refine wpAnyH_ready (rs := [15]) (by kernel_rfl) (by simp) (AllReadyH.cons rfl (fun K hK => ?_) AllReadyH.nil)
         go_simp
         refine hK.out _ _ hk4 (fun hHeld5 => ?_)
         clear hK K
         (try simp only [Act.put, List.setIfInBounds_toArray, List.set_cons_zero, List.set_cons_succ])
         refine wpAnyH_ready (rs := [16]) (by kernel_rfl) (by simp) (AllReadyH.cons rfl (fun K hK => ?_) AllReadyH.nil)
         go_simp
         refine hK.out _ _ hk4 (fun hHeld5 => ?_)
         clear hK K
         (try simp only [Act.put, List.setIfInBounds_toArray, List.set_cons_zero, List.set_cons_succ])
         refine wpAnyH_take (i := 17) (v := ?_) rfl (by kernel_rfl) (by kernel_rfl) (by kernel_rfl) (fun _ _ _ h => h) (Or.inl ⟨by kernel_rfl, ?_⟩) (by assumption) ?_
         rotate_left
         ·intro w' hSw
          go_simp
          (try go_bits)
          try with_reducible rfl
         (try simp only [Act.put, List.setIfInBounds_toArray, List.set_cons_zero, List.set_cons_succ])
         refine wpAnyH_take (i := 18) (v := ?_) rfl (by kernel_rfl) (by kernel_rfl) (by kernel_rfl) (fun _ _ _ h => h) (Or.inl ⟨by kernel_rfl, ?_⟩) (by assumption) ?_
         rotate_left
         ·intro w' hSw
          have m0 := (Blk.kept HB19.out hSw HE19.out).cell (v := .string y.text) 1 rfl
          go_simp
          (try go_bits)
          try with_reducible rfl
         (try simp only [Act.put, List.setIfInBounds_toArray, List.set_cons_zero, List.set_cons_succ])
         refine wpAnyH_take (i := 19) (v := ?_) rfl (by kernel_rfl) (by kernel_rfl) (by kernel_rfl) (fun _ _ _ h => h) (Or.inl ⟨by kernel_rfl, ?_⟩) (by assumption) ?_
         rotate_left
         ·intro w' hSw
          go_simp
          (try go_bits)
          try with_reducible rfl
         (try simp only [Act.put, List.setIfInBounds_toArray, List.set_cons_zero, List.set_cons_succ])
         refine wpAnyH_take (i := 20) (v := ?_) rfl (by kernel_rfl) (by kernel_rfl) (by kernel_rfl) (fun _ _ _ h => h) (Or.inl ⟨by kernel_rfl, ?_⟩) (by assumption) ?_
         rotate_left
         ·intro w' hSw
          go_simp
          (try go_bits)
          try with_reducible rfl
         (try simp only [Act.put, List.setIfInBounds_toArray, List.set_cons_zero, List.set_cons_succ])
         refine wpAnyH_take (i := 21) (v := undef) rfl (by kernel_rfl) (by kernel_rfl) (by kernel_rfl) (fun _ _ _ h => h) (Or.inr ⟨by kernel_rfl, rfl⟩) (by assumption) ?_
         (try simp only [Act.put, List.setIfInBounds_toArray, List.set_cons_zero, List.set_cons_succ])
         refine wpAnyH_take (i := 22) (v := undef) rfl (by kernel_rfl) (by kernel_rfl) (by kernel_rfl) (fun _ _ _ h => h) (Or.inr ⟨by kernel_rfl, rfl⟩) (by assumption) ?_
         (try simp only [Act.put, List.setIfInBounds_toArray, List.set_cons_zero, List.set_cons_succ])
         refine wpAnyH_take (i := 23) (v := undef) rfl (by kernel_rfl) (by kernel_rfl) (by kernel_rfl) (fun _ _ _ h => h) (Or.inr ⟨by kernel_rfl, rfl⟩) (by assumption) ?_
         (try simp only [Act.put, List.setIfInBounds_toArray, List.set_cons_zero, List.set_cons_succ])
         refine wpAnyH_take (i := 24) (v := undef) rfl (by kernel_rfl) (by kernel_rfl) (by kernel_rfl) (fun _ _ _ h => h) (Or.inr ⟨by kernel_rfl, rfl⟩) (by assumption) ?_
         (try simp only [Act.put, List.setIfInBounds_toArray, List.set_cons_zero, List.set_cons_succ])
         refine wpAnyH_take (i := 25) (v := undef) rfl (by kernel_rfl) (by kernel_rfl) (by kernel_rfl) (fun _ _ _ h => h) (Or.inr ⟨by kernel_rfl, rfl⟩) (by assumption) ?_
         (try simp only [Act.put, List.setIfInBounds_toArray, List.set_cons_zero, List.set_cons_succ])
         refine wpAnyH_take (i := 26) (v := undef) rfl (by kernel_rfl) (by kernel_rfl) (by kernel_rfl) (fun _ _ _ h => h) (Or.inr ⟨by kernel_rfl, rfl⟩) (by assumption) ?_
         (try simp only [Act.put, List.setIfInBounds_toArray, List.set_cons_zero, List.set_cons_succ])
         refine wpAnyH_take (i := 27) (v := undef) rfl (by kernel_rfl) (by kernel_rfl) (by kernel_rfl) (fun _ _ _ h => h) (Or.inr ⟨by kernel_rfl, rfl⟩) (by assumption) ?_
         (try simp only [Act.put, List.setIfInBounds_toArray, List.set_cons_zero, List.set_cons_succ])
         refine wpAnyH_take (i := 28) (v := undef) rfl (by kernel_rfl) (by kernel_rfl) (by kernel_rfl) (fun _ _ _ h => h) (Or.inr ⟨by kernel_rfl, rfl⟩) (by assumption) ?_
         (try simp only [Act.put, List.setIfInBounds_toArray, List.set_cons_zero, List.set_cons_succ])
         refine wpAnyH_take (i := 29) (v := ?_) rfl (by kernel_rfl) (by kernel_rfl) (by kernel_rfl) (fun _ _ _ h => h) (Or.inl ⟨by kernel_rfl, ?_⟩) (by assumption) ?_
         rotate_left
         ·intro w' hSw
          go_simp
          (try go_bits)
          try with_reducible rfl
         (try simp only [Act.put, List.setIfInBounds_toArray, List.set_cons_zero, List.set_cons_succ])
         refine wpAnyH_take (i := 30) (v := ?_) rfl (by kernel_rfl) (by kernel_rfl) (by kernel_rfl) (fun _ _ _ h => h) (Or.inl ⟨by kernel_rfl, ?_⟩) (by assumption) ?_
         rotate_left
         ·intro w' hSw
          go_simp
          (try go_bits)
          try with_reducible rfl
         (try simp only [Act.put, List.setIfInBounds_toArray, List.set_cons_zero, List.set_cons_succ])
         refine wpAnyH_done (by kernel_rfl) ?_ _
         exact ⟨true, by kernel_rfl, hk4, hj4, hx4⟩
       ·rintro a' w4 ⟨bb, ha, hk4, hj4, hx4⟩
        generalize a'.tmps.getD 96 undef = z96 at ha
        generalize a'.tmps.getD 97 undef = z97 at ha
        generalize a'.tmps.getD 98 undef = z98 at ha
        generalize a'.tmps.getD 99 undef = z99 at ha
        generalize a'.tmps.getD 100 undef = z100 at ha
        generalize a'.tmps.getD 101 undef = z101 at ha
        generalize a'.tmps.getD 102 undef = z102 at ha
        generalize a'.tmps.getD 103 undef = z103 at ha
        generalize a'.tmps.getD 104 undef = z104 at ha
        generalize a'.tmps.getD 105 undef = z105 at ha
        generalize a'.tmps.getD 106 undef = z106 at ha
        generalize a'.tmps.getD 107 undef = z107 at ha
        generalize a'.tmps.getD 108 undef = z108 at ha
        generalize a'.tmps.getD 109 undef = z109 at ha
        generalize a'.tmps.getD 110 undef = z110 at ha
        generalize a'.tmps.getD 111 undef = z111 at ha
        generalize a'.tmps.getD 112 undef = z112 at ha
        generalize a'.tmps.getD 113 undef = z113 at ha
        generalize a'.tmps.getD 114 undef = z114 at ha
        generalize a'.tmps.getD 115 undef = z115 at ha
        generalize a'.tmps.getD 116 undef = z116 at ha
        generalize a'.tmps.getD 117 undef = z117 at ha
        generalize a'.tmps.getD 118 undef = z118 at ha
        generalize a'.tmps.getD 119 undef = z119 at ha
        generalize a'.tmps.getD 120 undef = z120 at ha
        generalize a'.tmps.getD 121 undef = z121 at ha
        generalize a'.tmps.getD 122 undef = z122 at ha
        generalize a'.tmps.getD 123 undef = z123 at ha
        generalize a'.tmps.getD 124 undef = z124 at ha
        generalize a'.tmps.getD 125 undef = z125 at ha
        simp only [Act.put, List.setIfInBounds_toArray, List.set_cons_zero, List.set_cons_succ] at ha
        subst ha
        cases bb
        ·skip
         obtain ⟨hKN, hj5, hx5⟩ := HRES.out w4 _ _ hk4 hj4 hx4
         obtain ⟨hd1, hk1, ho1⟩ := HFIN.out _ hKN
         have HX5 := hide (HJX.out _ _ _ _ _ (HJX.out _ _ _ _ _ (hx5 rfl) (XStep.putObj w4 W4.heap.size (.deferred none) ho1)) (XStep.drop _ HDROP.out))
         have HD1 := hide hd1
         have HK1 := hide hk1
         clear hKN hj5 hx5 hd1 hk1 ho1 hk4 hj4 hx4
         gi_wp2
         refine leaves_mark1 (v := .bool false) HD1.out (by simp [results, Tryz.results56, go_sem]) ?_
         exact ⟨HK1.out, .inr ⟨rfl, HX5.out⟩⟩
        ·skip
         obtain ⟨hKN, hj5, hx5⟩ := HRES.out w4 _ _ hk4 hj4 hx4
         have HKN := hide hKN
         have HJ5 := hide (hj5 rfl)
         rw [HCT.out] at HJ5
         clear hKN hj5 hx5 hk4 hj4 hx4
         gi_wp2
         go_roundw
         case rel => exact ⟨j + 1, by omega, by go_num, HKN, HJ5⟩
         case measure => simp [Go.Mine.nI]; omega
     ·obtain rfl : j = gives.length := by omega
      have hjl := HJK.out
      rw [List.take_length] at hjl
      obtain ⟨hd1, hk1, ho1⟩ := HFIN.out _ HK.out
      have HJ2 := hide (HJ.out _ _ _ _ _ (HJ.out _ _ _ _ _ hjl (XStep.putObj wr W4.heap.size (.deferred none) ho1)) (XStep.drop _ HDROP.out))
      have HD1 := hide hd1
      have HK1 := hide hk1
      clear HK HJK hd1 hk1 hjl
      gi_wp2
      refine leaves_mark1 (v := .bool true) HD1.out (by simp [results, Tryz.results56, go_sem]) ?_
      exact ⟨HK1.out, .inl ⟨rfl, HJ2.out⟩⟩
end
end Go.Proofs.YtkfdafeonhnloaaGreatDoor
