/-
  types: free, between.
  types: the categories' numbers; find, cat, entry, part.
  types: the closures entry, part.
  types: the closure part.
-/
import Derived.Test.YtkfdafeonhnloaaGreatDoorGM5
import Derived.Test.YtkfdafeonhnloaaGreatDoorGM6
import Derived.Test.YtkfdafeonhnloaaGreatDoorGM8
import Derived.Test.YtkfdafeonhnloaaGreatDoorGM3
import Derived.Test.YtkfdafeonhnloaaGreatDoorGM2
namespace Go.Mine.C
def kwText : Str := ⟨#[103,114,97,109,109,97,114,32,99,97,116,101,103,111,114,121,32,115,116,97,114,116,32,119,111,114,100,32,105,115,32,103,105,118,101,115,32,99,111,115,116,32,114,117,108,101]⟩
def kwL : List Str := (Lib.fields kwText.data.toList).map fun l => ⟨l.toArray⟩
def freeB (s : Str) : Bool := nameB s && !Lib.containsS kwL s
def inB (a b n : Int) : Bool := decide (a ≤ n) && decide (n ≤ b)
set_option maxRecDepth 100000 in
theorem kw_len : kwL.length = 8 := by decide
theorem kw_ascii : ∀ b ∈ kwText.data.toList, b.toNat < 128 := by decide
end Go.Mine.C
namespace Go.Proofs.YtkfdafeonhnloaaGreatDoor
open Go.RowKit Go.Shelf Go.Mine Go.Mine.C
attribute [local go_sem] Oper.semAt_some
theorem fields_kw (w : World) (hE : Env w) : Calls Tryz.prog 156 #[.string kwText] w fun e w' => e = .returned (.slice (some ⟨w.heap.size, 0, none⟩) kwL.length kwL.length) ∧ w' = w.alloc (.cells (kwL.map Value.string).toArray 9) :=
 (sh_strings_Fields_laid kwText w (by decide) (fun j b hj => kw_ascii b (List.mem_of_getElem? hj)) hE.sp).mono fun e w' h => ⟨by rw [h.1]; unfold kwL; simp, by rw [h.2]; unfold kwL; rw [List.map_map]; rfl⟩
theorem kwHas (s : ByteArray) (w : World) : Calls Tryz.prog 148 #[.slice (some ⟨w.heap.size, 0, none⟩) kwL.length kwL.length, .string s] (w.alloc (.cells (kwL.map Value.string).toArray 9)) fun e w' => e = .returned (.bool (Lib.containsS kwL s)) ∧ w' = w.alloc (.cells (kwL.map Value.string).toArray 9) := by
 have B := Blk.new w (kwL.map Value.string).toArray 9
 have := sh_slices_Contains_string w.heap.size 0 kwL.length kwL.length kwL s (w.alloc (.cells (kwL.map Value.string).toArray 9)) (Nat.le_refl _) (by rw [kw_len]; decide) (fun j hj => by
  rw [Nat.zero_add]
  refine B.cell j ?_
  simp only [List.getElem?_toArray, List.getElem?_map, List.getD_eq_getElem?_getD, List.getElem?_eq_getElem hj, Option.map_some, Option.getD_some])
 rw [List.take_length] at this
 exact this
set_option maxHeartbeats 1000000 in
theorem free127 (s : ByteArray) (w : World) (hE : Env w) : Calls Tryz.prog 127 #[.string s] w fun e w' => e = .returned (.bool (freeB s)) ∧ Below w.heap.size w w' := by
 have K := hide (name138 s w)
 have H := hide (show freeB s = (nameB s && !Lib.containsS kwL s) from rfl)
 have KF := hide (fields_kw w hE)
 have KC := hide (kwHas s w)
 generalize freeB s = R at *
 generalize nameB s = p at *
 generalize Lib.containsS kwL s = q at *
 clear hE
 cases p
 ·go_enter Tryz.func127, Tryz.ntmps127
  go_wp2_with fail
  refine K.out.mono ?_
  rintro e w1 ⟨rfl, rfl⟩
  go_wp2
  go_ret
  exact ⟨ret_bool H.out.symm, Below.refl _ _⟩
 ·go_enter Tryz.func127, Tryz.ntmps127
  go_wp2_with fail
  refine K.out.mono ?_
  rintro e w1 ⟨rfl, rfl⟩
  go_wp2_with fail
  refine KF.out.mono ?_
  rintro e w1 ⟨rfl, rfl⟩
  go_wp2_with fail
  refine KC.out.mono ?_
  rintro e w1 ⟨rfl, rfl⟩
  go_wp2
  go_ret
  exact ⟨ret_bool H.out.symm, kalloc (Below.refl _ _) _⟩
theorem inB158 (a b n : Int) (p q : Nat) (w : World) (hp : Blk w p 3 #[.int .i64 a]) (hq : Blk w q 3 #[.int .i64 b]) : Calls Tryz.prog 158 #[.int .i64 n, .pointer (some ⟨p, 0, none⟩), .pointer (some ⟨q, 0, none⟩)] w fun e w' => e = .returned (.bool (inB a b n)) ∧ w = w' := by
 have x0 := hp.cell (v := .int .i64 a) 0 rfl
 have x1 := hq.cell (v := .int .i64 b) 0 rfl
 have l0 := hp.lt
 have l1 := hq.lt
 have H := hide (show inB a b n = (decide (a ≤ n) && decide (n ≤ b)) from rfl)
 clear hp hq
 generalize inB a b n = R at *
 cases g1 : decide (a ≤ n) <;> cases g2 : decide (n ≤ b)
 all_goals
  rw [g1, g2] at H
  go_enter Tryz.func158, Tryz.ntmps158
  go_wp2
  go_ret
  exact ⟨ret_bool H.out.symm, rfl⟩
set_option maxHeartbeats 1000000 in
theorem between128 (a b n : Int) (q : Nat) (w : World) (hq : Blk w q 3 #[.int .i64 n]) : Calls Tryz.prog 128 #[.int .i64 a, .int .i64 b, .slice (some ⟨q, 0, none⟩) 1 1] w fun e w' => e = .returned (.bool (inB a b n)) ∧ Below w.heap.size w w' := by
 have k1 := kalloc (Below.refl w.heap.size w) (.cells #[.int .i64 a] 3)
 have k2 := kalloc k1 (.cells #[.int .i64 b] 3)
 have k3 := kalloc k2 (.cells #[.slice (some ⟨q, 0, none⟩) 1 1] 31)
 have B0 := ((Blk.new w #[.int .i64 a] 3).alloc (.cells #[.int .i64 b] 3)).alloc (.cells #[.slice (some ⟨q, 0, none⟩) 1 1] 31)
 have B1 := (Blk.new1 w (.cells #[.int .i64 a] 3) #[.int .i64 b] 3).alloc (.cells #[.slice (some ⟨q, 0, none⟩) 1 1] 31)
 have B2 := Blk.new2 w (.cells #[.int .i64 a] 3) (.cells #[.int .i64 b] 3) #[.slice (some ⟨q, 0, none⟩) 1 1] 31
 have S1 : Sl ic 1 w (some ⟨q, 0, none⟩) 1 [n] := Sl.one hq rfl rfl (by decide) (by decide)
 have K := hide (all157 158 #[.pointer (some ⟨w.heap.size, 0, none⟩), .pointer (some ⟨w.heap.size + 1, 0, none⟩)] (enters_of Tryz.func158 (by kernel_rfl) rfl) (inB a b) _ 1 [n] (w.heap.size + 2) _ (S1.bel k3) B2
  (fun x _ w' hb => (inB158 a b x _ _ w' (B0.bel hb) (B1.bel hb)).mono fun e w'' h => ⟨h.1, by rw [← h.2]; exact Below.refl _ _⟩))
 have H := hide (show [n].all (inB a b) = inB a b n by simp)
 have HK := hide k3
 generalize [n].all (inB a b) = r at *
 clear k1 k2 k3 B0 B1 B2 S1 hq
 go_enter Tryz.func128, Tryz.ntmps128
 go_wp2_with fail
 refine K.out.mono ?_
 rintro e w1 ⟨rfl, hb⟩
 have HB := hide (kcall HK.out hb)
 clear hb K HK
 go_wp2
 go_ret
 exact ⟨ret_bool H.out, HB.out⟩
end Go.Proofs.YtkfdafeonhnloaaGreatDoor
namespace Go.Mine.C
open Go.RowKit Go.Mine
def litS (s : Str) : Lit := .string s.data.toList
def okS (s : Str) : Prop := s.size ≤ maxLen
def idxM (cats : List Str) (s : Str) : Option Int := (cats.zipIdx.foldl (fun m p => if s = p.1 then some (p.2 : Int) else m) none)
theorem idxM_snoc (l : List Str) (x s : Str) : idxM (l ++ [x]) s = if s = x then some (l.length : Int) else idxM l s := by
 unfold idxM
 rw [List.zipIdx_append, List.foldl_append]
 simp
theorem idx_go (s : Str) (cats : List Str) : ∀ (l : List Str) (n : Nat) (m0 : Option Int), (∀ j x, l[j]? = some x → cats[n + j]? = some x) → (∀ i, m0 = some i → 0 ≤ i ∧ cats[i.toNat]? = some s) →
  (((l.zipIdx n).foldl (fun m p => if s = p.1 then some (p.2 : Int) else m) m0).isSome = true ↔ (m0.isSome = true ∨ s ∈ l)) ∧ ∀ i, ((l.zipIdx n).foldl (fun m p => if s = p.1 then some (p.2 : Int) else m) m0) = some i → 0 ≤ i ∧ cats[i.toNat]? = some s
 | [], n, m0, _, h => by simp; exact h
 | x :: l, n, m0, hl, h => by
  rw [List.zipIdx_cons, List.foldl_cons]
  obtain ⟨h1, h2⟩ := idx_go s cats l (n + 1) (if s = x then some (n : Int) else m0) (fun j y hj => by
   have := hl (j + 1) y (by simpa using hj)
   rwa [show n + 1 + j = n + (j + 1) by omega]) (fun i hi => by
   by_cases e : s = x
   ·rw [if_pos e] at hi
    obtain rfl := Option.some.inj hi
    exact ⟨by omega, by have := hl 0 x rfl; simpa [e] using this⟩
   ·rw [if_neg e] at hi; exact h i hi)
  refine ⟨?_, h2⟩
  rw [h1]
  by_cases e : s = x
  ·simp [e]
  ·simp [e]
theorem idxM_some (l : List Str) (s : Str) : (idxM l s).isSome = true ↔ s ∈ l := by
 have := (idx_go s l l 0 none (fun j x h => by simpa using h) (fun i h => by cases h)).1
 simpa [idxM] using this
theorem idxM_at {l : List Str} {s : Str} {i : Int} (h : idxM l s = some i) : 0 ≤ i ∧ l[i.toNat]? = some s :=
 (idx_go s l l 0 none (fun j x h => by simpa using h) (fun i h => by cases h)).2 i h
def idxV (l : List Str) (s : Str) : Option Value := (idxM l s).map (Value.int .i64)
def catB (cats : List Str) (s : Str) : Bool := (idxM cats s).isSome
def idxF (cats : List Str) (s : Str) : Int := (idxM cats s).getD 0
theorem catB_idx {cats : List Str} {s : Str} (h : catB cats s = true) : idxM cats s = some (idxF cats s) := by
 unfold catB at h
 unfold idxF
 cases hx : idxM cats s with
 | none => rw [hx] at h; cases h
 | some i => rfl
def entB (cats : List Str) (x : EntH) : Bool := freeB x.text && (catB cats x.cat && (inB 1 4 x.gives.length && (x.gives.all freeB && inB 0 1000 x.cost)))
def partB (cats : List Str) (p : PartM) : Bool := if p.text.size = 0 then catB cats p.cat else (decide (p.cat.size = 0) && freeB p.text)
end Go.Mine.C
namespace Go.Proofs.YtkfdafeonhnloaaGreatDoor
open Go.RowKit Go.Shelf Go.Mine Go.Mine.C
attribute [local go_sem] Oper.semAt_some
theorem keyS : KeyG Tryz.prog 9 Value.string litS okS :=
 ⟨Maps.string_keyed Tryz.underlying9, fun h => WideMaps.keyOf_string_mk Tryz.underlying9 h, fun {a b} _ _ e => by
  unfold litS at e
  injection e with e
  have : a.data = b.data := Array.toList_inj.1 e
  cases a; cases b; simp_all⟩
structure IdxIn (w : World) (p : Nat) (cats : List Str) : Prop where
 ex : ∃ b n cnt, Blk w p 176 #[.map (some b)] ∧ MapG Tryz.prog 9 litS okS w b n (idxV cats) cnt
theorem IdxIn.bel {w w' : World} {p : Nat} {cats : List Str} (h : IdxIn w p cats) (hb : Below w.heap.size w w') : IdxIn w' p cats := by
 obtain ⟨b, n, cnt, h1, h2⟩ := h.ex
 exact ⟨b, n, cnt, h1.bel hb, h2.bel hb⟩
theorem find93 (s : ByteArray) (hs : okS s) (p : Nat) (cats : List ByteArray) (w : World) (h : IdxIn w p cats) : Calls Tryz.prog 93 #[.string s, .pointer (some ⟨p, 0, none⟩)] w fun e w' => e = .returned (.tuple #[.int .i64 (idxF cats s), .bool (catB cats s)]) ∧ w = w' := by
 obtain ⟨b, n, cnt, h1, h2⟩ := h.ex
 have c0 := h1.cell (v := .map (some b)) 0 rfl
 have l0 := h1.lt
 have hl := h2.look_ok keyS Tryz.underlying176 (Tryz.zeroValue3 _) hs
 have e1 : (idxV cats s).getD (.int .i64 0) = .int .i64 (idxF cats s) := by unfold idxV idxF; cases idxM cats s <;> rfl
 have e2 : (idxV cats s).isSome = catB cats s := by unfold idxV catB; cases idxM cats s <;> rfl
 rw [e1, e2] at hl
 clear h1 h2 e1 e2 h
 generalize idxF cats s = i at *
 generalize catB cats s = bb at *
 go_enter Tryz.func93, Tryz.ntmps93
 go_wp2
 go_ret2
 exact ⟨rfl, rfl⟩
structure CatIn (w : World) (p : Nat) (cats : List Str) : Prop where
 ex : ∃ q, Blk w p 178 #[.func (.func 93) #[] #[.pointer (some ⟨q, 0, none⟩)]] ∧ IdxIn w q cats
theorem CatIn.bel {w w' : World} {p : Nat} {cats : List Str} (h : CatIn w p cats) (hb : Below w.heap.size w w') : CatIn w' p cats := by
 obtain ⟨q, h1, h2⟩ := h.ex
 exact ⟨q, h1.bel hb, h2.bel hb⟩
theorem cat125 (s : ByteArray) (hs : okS s) (p : Nat) (cats : List ByteArray) (w : World) (h : CatIn w p cats) : Calls Tryz.prog 125 #[.string s, .pointer (some ⟨p, 0, none⟩)] w fun e w' => e = .returned (.bool (catB cats s)) ∧ w = w' := by
 obtain ⟨q, h1, h2⟩ := h.ex
 have c0 := h1.cell (v := .func (.func 93) #[] #[.pointer (some ⟨q, 0, none⟩)]) 0 rfl
 have l0 := h1.lt
 have K := hide (find93 s hs q cats w h2)
 clear h1 h2 h
 generalize idxF cats s = i at *
 generalize catB cats s = bb at *
 go_enter Tryz.func125, Tryz.ntmps125
 go_wp2_with fail
 refine K.out.mono ?_
 rintro e w1 ⟨rfl, rfl⟩
 go_wp2
 go_ret
 exact ⟨rfl, rfl⟩
structure CatBox (w : World) (p : Nat) (cats : List Str) : Prop where
 ex : ∃ q, Blk w p 87 #[.func (.func 125) #[] #[.pointer (some ⟨q, 0, none⟩)]] ∧ CatIn w q cats
theorem CatBox.bel {w w' : World} {p : Nat} {cats : List Str} (h : CatBox w p cats) (hb : Below w.heap.size w w') : CatBox w' p cats := by
 obtain ⟨q, h1, h2⟩ := h.ex
 exact ⟨q, h1.bel hb, h2.bel hb⟩
theorem freeP (w : World) (hE : Env w) (l : List ByteArray) : Pred Tryz.prog (fun x => .string x) 127 #[] freeB l w := fun x _ w' hb => by simpa using free127 x w' (hE.bel hb)
theorem e127 : ∀ args w, (callFunc 127 args).run Tryz.prog w = .ok (.enter 127 args) w := enters_of Tryz.func127 (by kernel_rfl) rfl
set_option maxRecDepth 100000 in
set_option maxHeartbeats 4000000 in
theorem entry126 (x : EntH) (cb : Nat) (cats : List ByteArray) (w : World) (hx : EntOk w x) (hs : okS x.cat) (hC : CatBox w cb cats) (hE : Env w) :
  Calls Tryz.prog 126 #[entV x, .pointer (some ⟨cb, 0, none⟩)] w fun e w' => e = .returned (.bool (entB cats x)) ∧ Below w.heap.size w w' := by
 have HR := hide (show entB cats x = (freeB x.text && (catB cats x.cat && (inB 1 4 x.gives.length && (x.gives.all freeB && inB 0 1000 x.cost)))) from rfl)
 have k0 := kalloc (Below.refl w.heap.size w) (.cells #[.string x.text, .string x.cat, .int .i64 x.catNo, .slice x.gA x.gives.length x.gC, .int .i64 x.cost] 107)
 have B0 := Blk.new w #[.string x.text, .string x.cat, .int .i64 x.catNo, .slice x.gA x.gives.length x.gC, .int .i64 x.cost] 107
 have K1 := hide (free127 x.text _ (hE.bel k0))
 have HX := hide (Sl.bel hx k0)
 have HC := hide (hC.bel k0)
 have HE := hide (hE.bel k0)
 have HK := hide k0
 have HB := hide B0
 have hxl := hx.le
 have hxm := hx.max
 simp only [entV]
 generalize entB cats x = R at *
 clear hx hC hE k0 B0
 obtain ⟨w0, hw0⟩ : ∃ y, y = w.alloc (.cells #[.string x.text, .string x.cat, .int .i64 x.catNo, .slice x.gA x.gives.length x.gC, .int .i64 x.cost] 107) := ⟨_, rfl⟩
 go_enter Tryz.func126, Tryz.ntmps126
 go_wp2_with fail
 refine K1.out.mono ?_
 rintro e w1 ⟨rfl, hb1⟩
 rw [← hw0] at HX HC HE HK HB hb1
 replace HX := hide (HX.out.bel hb1)
 replace HC := hide (HC.out.bel hb1)
 replace HE := hide (HE.out.bel hb1)
 replace HB := hide (HB.out.bel hb1)
 replace HK := hide (kcall HK.out hb1)
 clear hb1 K1 hw0
 generalize freeB x.text = p1 at *
 cases p1
 ·go_wp2
  go_ret
  exact ⟨ret_bool HR.out.symm, HK.out⟩
 ·obtain ⟨q, hq1, hq2⟩ := HC.out.ex
  have K2 := hide (cat125 x.cat hs q cats w1 hq2)
  have c0 := HB.out.cell (v := .string x.text) 0 rfl
  have c1 := HB.out.cell (v := .string x.cat) 1 rfl
  have c3 := HB.out.cell (v := .slice x.gA x.gives.length x.gC) 3 rfl
  have c4 := HB.out.cell (v := .int .i64 x.cost) 4 rfl
  have cl := HB.out.lt
  have d0 := hq1.cell (v := .func (.func 125) #[] #[.pointer (some ⟨q, 0, none⟩)]) 0 rfl
  have dl := hq1.lt
  clear hq1 hq2
  go_wp2_with fail
  refine K2.out.mono ?_
  rintro e w2 ⟨rfl, rfl⟩
  generalize catB cats x.cat = p2 at *
  cases p2
  ·go_wp2
   go_ret
   exact ⟨ret_bool HR.out.symm, HK.out⟩
  ·have K3 := hide (between128 1 4 (x.gives.length) w1.heap.size _ (Blk.new w1 #[.int .i64 x.gives.length] 3))
   have HK1 := hide (kalloc (Below.refl w1.heap.size w1) (.cells #[.int .i64 x.gives.length] 3))
   clear d0 dl K2 HC
   go_wp2_with fail
   refine K3.out.mono ?_
   rintro e w3 ⟨rfl, hb3⟩
   have hb3 := kcall HK1.out hb3
   replace HX := hide (HX.out.bel hb3)
   replace HE := hide (HE.out.bel hb3)
   replace HB := hide (HB.out.bel hb3)
   replace HK := hide (kcall HK.out hb3)
   clear hb3 K3 HK1 c0 c1 c3 c4 cl
   generalize inB 1 4 x.gives.length = p3 at *
   cases p3
   ·go_wp2
    go_ret
    exact ⟨ret_bool HR.out.symm, HK.out⟩
   ·have c3 := HB.out.cell (v := .slice x.gA x.gives.length x.gC) 3 rfl
    have cl := HB.out.lt
    have hbq := kalloc (Below.refl w3.heap.size w3) (.cells #[.slice x.gA x.gives.length x.gC] 22)
    have K4 := hide (all129 127 #[] e127 freeB x.gA x.gC x.gives w3.heap.size _ (HX.out.bel hbq) (Blk.new w3 #[.slice x.gA x.gives.length x.gC] 22) (freeP _ (HE.out.bel hbq) _))
    have HQ := hide hbq
    clear hbq
    go_wp2_with fail
    refine K4.out.mono ?_
    rintro e w4 ⟨rfl, hb4⟩
    have hb4 := kcall HQ.out hb4
    replace HB := hide (HB.out.bel hb4)
    replace HK := hide (kcall HK.out hb4)
    clear hb4 K4 HQ c3 cl HX HE
    generalize x.gives.all freeB = p4 at *
    cases p4
    ·go_wp2
     go_ret
     exact ⟨ret_bool HR.out.symm, HK.out⟩
    ·have c4 := HB.out.cell (v := .int .i64 x.cost) 4 rfl
     have cl := HB.out.lt
     have K5 := hide (between128 0 1000 x.cost w4.heap.size _ (Blk.new w4 #[.int .i64 x.cost] 3))
     have HQ := hide (kalloc (Below.refl w4.heap.size w4) (.cells #[.int .i64 x.cost] 3))
     go_wp2_with fail
     refine K5.out.mono ?_
     rintro e w5 ⟨rfl, hb5⟩
     have hb5 := kcall HQ.out hb5
     replace HK := hide (kcall HK.out hb5)
     clear hb5 K5 HQ c4 cl
     generalize inB 0 1000 x.cost = p5 at *
     go_wp2
     go_ret
     exact ⟨ret_bool HR.out.symm, HK.out⟩
end Go.Proofs.YtkfdafeonhnloaaGreatDoor
namespace Go.Mine.C
theorem str_empty {s : Str} (h : s.size = 0) : s = ByteArray.empty := by
 have : s.data = #[] := Array.eq_empty_of_size_eq_zero h
 cases s; simp_all [ByteArray.empty, ByteArray.emptyWithCapacity]
theorem str_ne {s : Str} (h : ¬ s.size = 0) : s.toList.isEmpty = false := by
 rw [Lib.toList_data]
 cases h' : s.data.toList with
 | nil => exact absurd (by rw [Lib.size_eq, h']; rfl) h
 | cons _ _ => rfl
end Go.Mine.C
namespace Go.Proofs.YtkfdafeonhnloaaGreatDoor
open Go.RowKit Go.Shelf Go.Mine Go.Mine.C
attribute [local go_sem] Oper.semAt_some
set_option maxRecDepth 100000 in
set_option maxHeartbeats 4000000 in
theorem part130 (x : PartM) (cb : Nat) (cats : List ByteArray) (w : World) (hs : okS x.cat) (hC : CatBox w cb cats) (hE : Env w) :
  Calls Tryz.prog 130 #[partV x, .pointer (some ⟨cb, 0, none⟩)] w fun e w' => e = .returned (.bool (partB cats x)) ∧ Below w.heap.size w w' := by
 obtain ⟨cat, catNo, text⟩ := x
 simp only [partV] at *
 have HR := hide (show partB cats ⟨cat, catNo, text⟩ = if text.size = 0 then catB cats cat else (decide (cat.size = 0) && freeB text) from rfl)
 generalize partB cats ⟨cat, catNo, text⟩ = R at *
 have k0 := kalloc (Below.refl w.heap.size w) (.cells #[.string cat, .int .i64 catNo, .string text] 125)
 have HK := hide k0
 by_cases h0 : text.size = 0
 ·obtain rfl := str_empty h0
  rw [if_pos h0] at HR
  obtain ⟨q, hq1, hq2⟩ := (hC.bel k0).ex
  have K2 := hide (cat125 cat hs q cats _ hq2)
  have d0 := hq1.cell (v := .func (.func 125) #[] #[.pointer (some ⟨q, 0, none⟩)]) 0 rfl
  have dl := hq1.lt
  clear hq1 hq2 hC hE k0 h0
  generalize catB cats cat = p at *
  go_enter Tryz.func130, Tryz.ntmps130
  go_wp2_with fail
  refine K2.out.mono ?_
  rintro e w1 ⟨rfl, rfl⟩
  cases p
  all_goals
   go_wp2
   go_ret
   exact ⟨ret_bool HR.out.symm, HK.out⟩
 ·have e1 := str_ne h0
  rw [if_neg h0] at HR
  have K := hide (free127 text _ (hE.bel k0))
  generalize freeB text = p at *
  by_cases h1 : cat.size = 0
  ·obtain rfl := str_empty h1
   rw [decide_eq_true h1] at HR
   clear hC hE k0 h1
   go_enter Tryz.func130, Tryz.ntmps130
   go_wp2_with fail
   refine K.out.mono ?_
   rintro e w1 ⟨rfl, hb1⟩
   replace HK := hide (kcall HK.out hb1)
   clear hb1 K
   go_wp2
   go_ret
   exact ⟨ret_bool HR.out.symm, HK.out⟩
  ·have e2 := str_ne h1
   rw [decide_eq_false h1] at HR
   clear hC hE k0 K
   go_enter Tryz.func130, Tryz.ntmps130
   go_wp2
   go_ret
   exact ⟨ret_bool HR.out.symm, HK.out⟩
end Go.Proofs.YtkfdafeonhnloaaGreatDoor
