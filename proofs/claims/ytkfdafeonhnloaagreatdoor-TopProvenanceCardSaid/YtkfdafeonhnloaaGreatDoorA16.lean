/-
 types: the closure rule.
-/
import Derived.Test.YtkfdafeonhnloaaGreatDoorGM9
import Derived.Test.YtkfdafeonhnloaaGreatDoorGM1
import Derived.StillTailTactics
namespace Go.Mine.C
open Go.RowKit Go.Mine
def givesGo : List GiveM → List Int → Option (List Int)
 | [], m => some m
 | y :: ys, m => if y.text.size = 0 then (if inB 0 ((m.length : Int) - 1) y.part = true then givesGo ys (m.set y.part.toNat (m.getD y.part.toNat 0 + 1)) else none) else (if y.part = 0 ∧ freeB y.text = true then givesGo ys m else none)
def lastGo : List PartM → List Int → Bool
 | p :: ps, c :: cs => ((c == 1) == decide (p.text.size = 0)) && (decide (c ≤ 1) && lastGo ps cs)
 | _, _ => true
def countB (r : RuleH) : Bool := match givesGo r.gives (List.replicate r.parts.length 0) with | none => false | some m => lastGo r.parts m
def ruleB (cats : List Str) (r : RuleH) : Bool := catB cats r.cat && (inB 1 4 r.parts.length && (inB 1 8 r.gives.length && (inB 0 1000 r.cost && (r.parts.all (partB cats) && countB r))))
theorem madeZ (n : Nat) (w : World) (hn : n ≤ 1000) : OwnL ic 1 3 (w.alloc (.cells (madeCells (Value.int .i64 0).cells (n * 1)) 3)) w.heap.size (.slice (some ⟨w.heap.size, 0, none⟩) n n) (List.replicate n (0 : Int)) := by
 have hf : ∀ n : Nat, (List.replicate n (0 : Int)).flatMap ic = List.replicate n (Value.int .i64 0) := fun n => by
  induction n with
  | zero => rfl
  | succ n ih => rw [List.replicate_succ, List.flatMap_cons, ih, List.replicate_succ]; rfl
 have hm : (madeCells (Value.int .i64 0).cells (n * 1)).toList = List.replicate n (Value.int .i64 0) := by
  refine List.ext_getElem? fun i => ?_
  by_cases h : i < n
  ·simp [madeCells, Value.cells, h, Nat.mod_one]
  ·simp [madeCells, Value.cells, h]
 have hsz : (madeCells (Value.int .i64 0).cells (n * 1)).size = n := by rw [← Array.length_toList, hm]; simp
 refine ⟨⟨by rw [hf]; simp, .inr ⟨w.heap.size, n, _, by simp, Nat.le_refl _, heap_new _ _, by simp, by simp only [maxLen]; omega, by rw [hsz]; omega, ?_⟩⟩, fun _ _ => rfl⟩
 rw [hm, hf]
 simp
end Go.Mine.C
namespace Go.Proofs.YtkfdafeonhnloaaGreatDoor
open Go.RowKit Go.Shelf Go.Mine Go.Mine.C
attribute [local go_sem] Oper.semAt_some
structure PartBox (w : World) (p : Nat) (cats : List Str) : Prop where
 ex : ∃ q, Blk w p 212 #[.func (.func 130) #[] #[.pointer (some ⟨q, 0, none⟩)]] ∧ CatBox w q cats
theorem PartBox.bel {w w' : World} {p : Nat} {cats : List Str} (h : PartBox w p cats) (hb : Below w.heap.size w w') : PartBox w' p cats := by
 obtain ⟨q, h1, h2⟩ := h.ex
 exact ⟨q, h1.bel hb, h2.bel hb⟩
theorem e130 : ∀ args w, (callFunc 130 args).run Tryz.prog w = .ok (.enter 130 args) w := enters_of Tryz.func130 (by kernel_rfl) rfl
theorem partP (w : World) (hE : Env w) (cats : List ByteArray) (q : Nat) (hC : CatBox w q cats) (l : List PartM) (hl : ∀ x ∈ l, okS x.cat) : Pred Tryz.prog partV 130 #[.pointer (some ⟨q, 0, none⟩)] (partB cats) l w := fun x hx w' hb => by
 have := part130 x q cats w' (hl x hx) (hC.bel hb) (hE.bel hb)
 simpa using this
set_option maxRecDepth 100000 in
set_option maxHeartbeats 8000000 in
theorem rule131 (x : RuleH) (cb pb : Nat) (cats : List ByteArray) (w : World) (hx : RuleOkW w x) (hs : okS x.cat) (hsp : ∀ p ∈ x.parts, okS p.cat) (hC : CatBox w cb cats) (hP : PartBox w pb cats) (hE : Env w) :
  Calls Tryz.prog 131 #[ruleV x, .pointer (some ⟨cb, 0, none⟩), .pointer (some ⟨pb, 0, none⟩)] w fun e w' => e = .returned (.bool (ruleB cats x)) ∧ Below w.heap.size w w' := by
 obtain ⟨cat, catNo, pA, pC, parts, gA, gC, gives, cost⟩ := x
 obtain ⟨hxp, hxg⟩ := hx
 simp only [ruleV] at *
 have HR := hide (show ruleB cats ⟨cat, catNo, pA, pC, parts, gA, gC, gives, cost⟩ = (catB cats cat && (inB 1 4 parts.length && (inB 1 8 gives.length && (inB 0 1000 cost && (parts.all (partB cats) && countB ⟨cat, catNo, pA, pC, parts, gA, gC, gives, cost⟩))))) from rfl)
 generalize ruleB cats ⟨cat, catNo, pA, pC, parts, gA, gC, gives, cost⟩ = R at *
 have HCB := hide (show countB ⟨cat, catNo, pA, pC, parts, gA, gC, gives, cost⟩ = match givesGo gives (List.replicate parts.length 0) with | none => false | some m => lastGo parts m from rfl)
 generalize countB ⟨cat, catNo, pA, pC, parts, gA, gC, gives, cost⟩ = CB at *
 have hpl := hxp.le
 have hpm := hxp.max
 have hgl := hxg.le
 have hgm := hxg.max
 have k0 := kalloc (Below.refl w.heap.size w) (.cells #[.string cat, .int .i64 catNo, .slice pA parts.length pC, .slice gA gives.length gC, .int .i64 cost] 111)
 have B0 := hide (Blk.new w #[.string cat, .int .i64 catNo, .slice pA parts.length pC, .slice gA gives.length gC, .int .i64 cost] 111)
 obtain ⟨q, hq1, hq2⟩ := (hC.bel k0).ex
 have K1 := hide (cat125 cat hs q cats _ hq2)
 have HXP := hide (hxp.bel k0)
 have HXG := hide (hxg.bel k0)
 have HP := hide (hP.bel k0)
 have HE := hide (hE.bel k0)
 have HK := hide k0
 have HSP := hide hsp
 have d0 := hq1.cell (v := .func (.func 125) #[] #[.pointer (some ⟨q, 0, none⟩)]) 0 rfl
 have dl := hq1.lt
 clear hxp hxg hC hP hE hq1 hq2 k0 hsp
 generalize catB cats cat = p1 at *
 go_enter Tryz.func131, Tryz.ntmps131
 go_wp2_with fail
 refine K1.out.mono ?_
 rintro e w1 ⟨rfl, rfl⟩
 obtain ⟨w1, hw1⟩ : ∃ y, y = w.alloc (.cells #[.string cat, .int .i64 catNo, .slice pA parts.length pC, .slice gA gives.length gC, .int .i64 cost] 111) := ⟨_, rfl⟩
 rw [← hw1] at HXP HXG HP HE HK B0 ⊢
 have Bl := B0.out.lt
 have c2 := B0.out.cell (v := .slice pA parts.length pC) 2 rfl
 have c3 := B0.out.cell (v := .slice gA gives.length gC) 3 rfl
 have c4 := B0.out.cell (v := .int .i64 cost) 4 rfl
 clear hw1 K1 d0 dl
 cases p1
 ·go_wp2
  go_ret
  exact ⟨ret_bool HR.out.symm, HK.out⟩
 have K2 := hide (between128 1 4 (parts.length) w1.heap.size _ (Blk.new w1 #[.int .i64 parts.length] 3))
 have HQ := hide (kalloc (Below.refl w1.heap.size w1) (.cells #[.int .i64 parts.length] 3))
 go_wp2_with fail
 refine K2.out.mono ?_
 rintro e w2 ⟨rfl, hb⟩
 have hb := kcall HQ.out hb
 replace HXP := hide (HXP.out.bel hb)
 replace HXG := hide (HXG.out.bel hb)
 replace HP := hide (HP.out.bel hb)
 replace HE := hide (HE.out.bel hb)
 replace HK := hide (kcall HK.out hb)
 replace B0 := hide (B0.out.bel hb)
 clear hb HQ K2 Bl c2 c3 c4
 have HP4 := hide (show inB 1 4 parts.length = true → 1 ≤ parts.length ∧ parts.length ≤ 4 from fun h => by simp [inB] at h; omega)
 generalize inB 1 4 parts.length = p2 at *
 have Bl := B0.out.lt
 have c2 := B0.out.cell (v := .slice pA parts.length pC) 2 rfl
 have c3 := B0.out.cell (v := .slice gA gives.length gC) 3 rfl
 have c4 := B0.out.cell (v := .int .i64 cost) 4 rfl
 cases p2
 ·go_wp2
  go_ret
  exact ⟨ret_bool HR.out.symm, HK.out⟩
 replace HP4 := hide (HP4.out rfl)
 have K2 := hide (between128 1 8 (gives.length) w2.heap.size _ (Blk.new w2 #[.int .i64 gives.length] 3))
 have HQ := hide (kalloc (Below.refl w2.heap.size w2) (.cells #[.int .i64 gives.length] 3))
 go_wp2_with fail
 refine K2.out.mono ?_
 rintro e w3 ⟨rfl, hb⟩
 have hb := kcall HQ.out hb
 replace HXP := hide (HXP.out.bel hb)
 replace HXG := hide (HXG.out.bel hb)
 replace HP := hide (HP.out.bel hb)
 replace HE := hide (HE.out.bel hb)
 replace HK := hide (kcall HK.out hb)
 replace B0 := hide (B0.out.bel hb)
 clear hb HQ K2 Bl c2 c3 c4
 have HG8 := hide (show inB 1 8 gives.length = true → 1 ≤ gives.length ∧ gives.length ≤ 8 from fun h => by simp [inB] at h; omega)
 generalize inB 1 8 gives.length = p3 at *
 have Bl := B0.out.lt
 have c2 := B0.out.cell (v := .slice pA parts.length pC) 2 rfl
 have c3 := B0.out.cell (v := .slice gA gives.length gC) 3 rfl
 have c4 := B0.out.cell (v := .int .i64 cost) 4 rfl
 cases p3
 ·go_wp2
  go_ret
  exact ⟨ret_bool HR.out.symm, HK.out⟩
 replace HG8 := hide (HG8.out rfl)
 have K2 := hide (between128 0 1000 cost w3.heap.size _ (Blk.new w3 #[.int .i64 cost] 3))
 have HQ := hide (kalloc (Below.refl w3.heap.size w3) (.cells #[.int .i64 cost] 3))
 go_wp2_with fail
 refine K2.out.mono ?_
 rintro e w4 ⟨rfl, hb⟩
 have hb := kcall HQ.out hb
 replace HXP := hide (HXP.out.bel hb)
 replace HXG := hide (HXG.out.bel hb)
 replace HP := hide (HP.out.bel hb)
 replace HE := hide (HE.out.bel hb)
 replace HK := hide (kcall HK.out hb)
 replace B0 := hide (B0.out.bel hb)
 clear hb HQ K2 Bl c2 c3 c4
 generalize inB 0 1000 cost = p4 at *
 have Bl := B0.out.lt
 have c2 := B0.out.cell (v := .slice pA parts.length pC) 2 rfl
 have c3 := B0.out.cell (v := .slice gA gives.length gC) 3 rfl
 have c4 := B0.out.cell (v := .int .i64 cost) 4 rfl
 cases p4
 ·go_wp2
  go_ret
  exact ⟨ret_bool HR.out.symm, HK.out⟩
 obtain ⟨q2, hq1, hq2⟩ := HP.out.ex
 have hbq := kalloc (Below.refl w4.heap.size w4) (.cells #[.slice pA parts.length pC] 108)
 have K2 := hide (all132 130 #[.pointer (some ⟨q2, 0, none⟩)] e130 (partB cats) pA pC parts w4.heap.size _ (HXP.out.bel hbq) (Blk.new w4 #[.slice pA parts.length pC] 108) (partP _ (HE.out.bel hbq) cats q2 (hq2.bel hbq) parts HSP.out))
 have HQ := hide hbq
 have d0 := hq1.cell (v := .func (.func 130) #[] #[.pointer (some ⟨q2, 0, none⟩)]) 0 rfl
 have dl := hq1.lt
 clear hq1 hq2 hbq
 go_wp2_with fail
 refine K2.out.mono ?_
 rintro e w5 ⟨rfl, hb⟩
 have hb := kcall HQ.out hb
 replace HXP := hide (HXP.out.bel hb)
 replace HXG := hide (HXG.out.bel hb)
 replace HE := hide (HE.out.bel hb)
 replace HK := hide (kcall HK.out hb)
 replace B0 := hide (B0.out.bel hb)
 clear hb HQ K2 Bl c2 c3 c4 HP d0 dl
 generalize parts.all (partB cats) = p5 at *
 have Bl := B0.out.lt
 have c2 := B0.out.cell (v := .slice pA parts.length pC) 2 rfl
 have c3 := B0.out.cell (v := .slice gA gives.length gC) 3 rfl
 cases p5
 ·go_wp2
  go_ret
  exact ⟨ret_bool HR.out.symm, HK.out⟩
 simp only [Bool.true_and] at HR
 have hr := HR.out
 subst hr
 clear HR
 obtain ⟨i0, hi, hz0, hz1, hz2⟩ := info_parts Tryz_infoA3
 have hp4 := HP4.out
 have hmk : ∀ w : World, (Instr.makeSlice 31 (.int .i64 (parts.length : Int)) (.int .i64 (parts.length : Int))).run Tryz.prog w = .ok (.slice (some ⟨w.heap.size, 0, none⟩) parts.length parts.length) (w.alloc (.cells (madeCells (Value.int .i64 0).cells (parts.length * 1)) 3)) := fun w => by
  have := run_make_rowN 31 3 i0 _ Tryz.underlying31 hi hz0 .i64 .i64 parts.length parts.length (Nat.le_refl _) (by rw [hz2]; omega) (by omega) w
  rw [hz1] at this; exact this
 clear hi hz0 hz1 hz2
 have hmz := madeZ parts.length w5 (by omega)
 rw [Nat.mul_one] at hmz
 have HO0 := hide (show OwnL ic 1 3 (w5.alloc (.cells (madeCells #[Value.int .i64 0] parts.length) 3)) _ _ _ from hmz)
 have HB0 := hide (kalloc (Below.refl w5.heap.size w5) (.cells (madeCells #[Value.int .i64 0] parts.length) 3))
 clear hmz hp4
 go_wp2
 clear hmk Bl c2 c3
 have hn1 : (1 : Int) ≤ parts.length := by have := HP4.out; omega
 have hn4 : (parts.length : Int) ≤ 4 := by have := HP4.out; omega
 go_loopw [53] (fun i wr => ∃ (k : Nat) (m : List Int), k ≤ gives.length ∧ i = .int .i64 k ∧ Hid (givesGo gives (List.replicate parts.length 0) = givesGo (gives.drop k) m) ∧ Hid (m.length = parts.length) ∧ Hid (∀ (j : Nat) (c : Int), m[j]? = some c → 0 ≤ c ∧ c ≤ (k : Int)) ∧ Hid (OwnL ic 1 3 wr w5.heap.size (.slice (some ⟨w5.heap.size, 0, none⟩) parts.length parts.length) m) ∧ Hid (Below w5.heap.size w5 wr)) (fun i _ => gives.length - (nI i).toNat)
 case atStart =>
  have h2 : ∀ (j : Nat) (c : Int), (List.replicate parts.length (0 : Int))[j]? = some c → 0 ≤ c ∧ c ≤ ((0 : Nat) : Int) := fun j c hj => by
   have := (List.mem_replicate.1 (List.mem_of_getElem? hj)).2
   omega
  exact ⟨0, _, Nat.zero_le _, rfl, rfl, List.length_replicate, h2, HO0, HB0⟩
 case round =>
  clear HO0 HB0
  obtain ⟨k, m, hk, rfl, HQ, HML, HMB, HO, HB⟩ := hrel
  by_cases hlt : k < gives.length
  ·obtain ⟨y, b, off, hy, hdr, rfl, hbw, c0, c1⟩ := give_at (HXG.out.bel HB.out) hlt
   obtain ⟨part, text⟩ := y
   dsimp only at c0 c1
   have hq := HQ.out
   rw [hdr] at hq
   simp only [givesGo] at hq
   clear hdr hy
   have k1 := kalloc (Below.refl wr.heap.size wr) (.cells #[.int .i64 part, .string text] 127)
   have kz : (k : Int) < (gives.length : Int) := by omega
   by_cases h0 : text.size = 0
   ·rw [if_pos h0, HML.out] at hq
    obtain rfl := str_empty h0
    have k2 := kalloc k1 (.cells #[.int .i64 part] 3)
    have K := hide (between128 0 ((parts.length : Int) - 1) part (wr.heap.size + 1) _ (Blk.new1 wr (.cells #[.int .i64 part, .string ByteArray.empty] 127) #[.int .i64 part] 3))
    have B7 := hide ((Blk.new wr #[.int .i64 part, .string ByteArray.empty] 127).alloc (.cells #[.int .i64 part] 3))
    have HK2 := hide k2
    have HIB := hide (show inB 0 ((parts.length : Int) - 1) part = true → 0 ≤ part ∧ part < parts.length from fun h => by simp [inB] at h; omega)
    generalize inB 0 ((parts.length : Int) - 1) part = p at *
    clear k1 k2 h0
    go_wp2_with fail
    refine K.out.mono ?_
    rintro e w6 ⟨rfl, hb⟩
    have HB6 := hide (kcall HK2.out hb)
    replace B7 := hide (B7.out.bel hb)
    clear hb K HK2
    cases p
    ·rw [if_neg (by simp)] at hq
     have H := hide (show R = false by rw [HCB.out, hq])
     clear hq B7
     go_wp2
     go_ret
     exact ⟨ret_bool H.out.symm, kcall HK.out (kcall HB.out HB6.out)⟩
    ·rw [if_pos rfl] at hq
     obtain ⟨hp0, hp1⟩ := HIB.out rfl
     obtain ⟨j, rfl⟩ : ∃ j : Nat, part = (j : Int) := ⟨part.toNat, by omega⟩
     have hj : j < m.length := by rw [HML.out]; omega
     obtain ⟨c, hc⟩ : ∃ c, m[j]? = some c := ⟨_, List.getElem?_eq_getElem hj⟩
     obtain ⟨hc0, hc1⟩ := HMB.out j c hc
     obtain ⟨g, cap, e, hg1, hg2, _, _, hfz, hcl, hset⟩ := own_at (HO.out.bel HB6.out) hc
     injection e with e1 e2 e3
     injection e1 with e1
     injection e1 with e1 _ _
     subst e1
     rw [Int.toNat_natCast, List.getD_eq_getElem?_getD, hc, Option.getD_some] at hq
     have c9 := hcl 0 (.int .i64 c) rfl
     rw [Nat.mul_one, Nat.add_zero] at c9
     have z9 := hfz j
     have HO9 := hide (hset 0 (.int .i64 (c + 1)) (c + 1) (w6.setCell ⟨w5.heap.size, j * 1 + 0, none⟩ (.int .i64 (c + 1))) rfl (by decide) rfl)
     rw [Nat.mul_one, Nat.add_zero] at HO9
     have x7 := B7.out.cell (v := .int .i64 (j : Int)) 0 rfl
     have l7 := B7.out.lt
     have hne : wr.heap.size ≠ w5.heap.size := by have := HO.out.blk (g := w5.heap.size) rfl; omega
     have HML9 := hide (show (m.set j (c + 1)).length = parts.length by rw [List.length_set]; exact HML.out)
     have HMB9 := hide (show ∀ (i : Nat) (d : Int), (m.set j (c + 1))[i]? = some d → 0 ≤ d ∧ d ≤ ((k + 1 : Nat) : Int) from fun i d hd => by
      rcases Classical.em (j = i) with rfl | hne
      ·rw [List.getElem?_set_self hj] at hd
       obtain rfl := Option.some.inj hd; omega
      ·rw [List.getElem?_set_ne hne] at hd
       have := HMB.out i d hd; omega)
     have hc8 : c ≤ 8 := by have := HG8.out; omega
     have HB9 := hide ((kcall HB.out HB6.out).setCell (p := ⟨w5.heap.size, j, none⟩) (Nat.le_refl _) (.int .i64 (c + 1)))
     have HQ9 := hide hq
     have hjz : (j : Int) < (parts.length : Int) := by omega
     clear hq hc hcl hset hfz HIB B7 e2 e3 c0 c1
     go_wp2
     go_roundw
     case rel => exact ⟨k + 1, _, by omega, by go_num, HQ9.out, HML9, HMB9, HO9, HB9⟩
     case measure => simp [nI]; omega
   ·rw [if_neg h0] at hq
    have e1 := str_ne h0
    have B7 := hide (Blk.new wr #[.int .i64 part, .string text] 127)
    have HK1 := hide k1
    by_cases hp0 : part = 0
    ·subst hp0
     have K := hide (free127 text _ (HE.out.bel (kcall HB.out k1)))
     generalize freeB text = p at *
     go_wp2_with fail
     refine K.out.mono ?_
     rintro e w6 ⟨rfl, hb⟩
     have HB6 := hide (kcall HK1.out hb)
     clear hb K HK1 k1
     cases p
     ·rw [if_neg (by simp)] at hq
      have H := hide (show R = false by rw [HCB.out, hq])
      clear hq B7
      go_wp2
      go_ret
      exact ⟨ret_bool H.out.symm, kcall HK.out (kcall HB.out HB6.out)⟩
     ·rw [if_pos (by simp)] at hq
      have HQ9 := hide hq
      have HO9 := hide (HO.out.bel HB6.out)
      have HB9 := hide (kcall HB.out HB6.out)
      have HMB9 := hide (show ∀ (i : Nat) (d : Int), m[i]? = some d → 0 ≤ d ∧ d ≤ ((k + 1 : Nat) : Int) from fun i d hd => by have := HMB.out i d hd; omega)
      clear hq B7
      go_wp2
      go_roundw
      case rel => exact ⟨k + 1, m, by omega, by go_num, HQ9.out, HML, HMB9, HO9, HB9⟩
      case measure => simp [nI]; omega
    ·rw [if_neg (fun h => hp0 h.1)] at hq
     have g0 : (part == 0) = false := by simpa using hp0
     have g1 : (part != 0) = true := by rw [bne, g0]; rfl
     have H := hide (show R = false by rw [HCB.out, hq])
     clear hq B7 hp0 k1
     go_wp2
     go_ret
     exact ⟨ret_bool H.out.symm, kcall HK.out (kcall HB.out HK1.out)⟩
  ·obtain rfl : k = gives.length := by omega
   have hq := HQ.out
   rw [List.drop_of_length_le (Nat.le_refl _)] at hq
   simp only [givesGo] at hq
   have HQ9 := hide (show R = lastGo parts m by rw [HCB.out, hq])
   have HK9 := hide (kcall HK.out HB.out)
   have HXP9 := hide (HXP.out.bel HB.out)
   have B09 := B0.out.bel HB.out
   have Bl := B09.lt
   have c2 := B09.cell (v := .slice pA parts.length pC) 2 rfl
   clear hq HQ HCB B09 B0 HXG
   go_wp2
   clear c2 Bl
   obtain ⟨wo, hwo⟩ : ∃ y, y = wr := ⟨_, rfl⟩
   subst hwo
   go_loopw [90] (fun i wr => ∃ k : Nat, k ≤ parts.length ∧ i = .int .i64 k ∧ Hid (lastGo parts m = lastGo (parts.drop k) (m.drop k)) ∧ Hid (Below wo.heap.size wo wr)) (fun i _ => parts.length - (nI i).toNat)
   case atStart => exact ⟨0, Nat.zero_le _, rfl, rfl, Below.refl _ _⟩
   case round =>
    obtain ⟨k, hk, rfl, HQ, HB1⟩ := hrel
    by_cases hlt : k < parts.length
    ·obtain ⟨p, b, off, hp, hdr, rfl, hbw, c0, c1, c2⟩ := part_at (HXP9.out.bel HB1.out) hlt
     obtain ⟨c, hc⟩ : ∃ c, m[k]? = some c := ⟨_, List.getElem?_eq_getElem (by rw [HML.out]; exact hlt)⟩
     obtain ⟨g, cap, e, hg1, hg2, _, _, hfz, hcl, hset⟩ := own_at (HO.out.bel HB1.out) hc
     injection e with e1 e2 e3
     injection e1 with e1
     injection e1 with e1 _ _
     subst e1
     have c9 := hcl 0 (.int .i64 c) rfl
     rw [Nat.mul_one, Nat.add_zero] at c9
     have hq := HQ.out
     rw [hdr, drop_of_get hc] at hq
     simp only [lastGo] at hq
     obtain ⟨pcat, pno, ptext⟩ := p
     dsimp only at hq c0 c1 c2
     have kz : (k : Int) < (parts.length : Int) := by omega
     have k1 := kalloc (Below.refl wr.heap.size wr) (.cells #[.string pcat, .int .i64 pno, .string ptext] 125)
     have B7 := Blk.new wr #[.string pcat, .int .i64 pno, .string ptext] 125
     have x2 := B7.cell (v := .string ptext) 2 rfl
     have x9 := (k1.cell (p := ⟨w5.heap.size, k, none⟩) hg2).trans c9
     have HB2 := hide (kcall HB1.out k1)
     have HB2d := hide (kcall HB1.out k1).drew
     have l9 := hg2
     clear hc hcl hset hfz hp hdr e2 e3 B7
     cases g1 : (c == 1)
     ·by_cases h0 : ptext.size = 0
      ·obtain rfl := str_empty h0
       rw [g1, decide_eq_true h0] at hq
       have H := hide (show R = false by rw [HQ9.out, hq]; rfl)
       clear hq h0
       go_wp2_with fail
       refine wp_still_all (by kernel_rfl) (by kernel_rfl) ?_
       repeat (first | ((with_reducible refine wpStill_step (fun K hK => ?_)); go_simp; (try go_bits); (with_reducible refine hK _ ?_); clear hK K) | ((with_reducible refine wpStill_step (fun K hK => ?_)); go_simp; rw [if_neg (by simp [undef])]; (with_reducible refine hK _ ?_); clear hK K))
       (with_reducible refine wpStill_nil ?_)
       go_wp2
       go_ret
       exact ⟨ret_bool H.out.symm, kcall HK9.out HB2d.out⟩
      ·have e1 := str_ne h0
       rw [g1, decide_eq_false h0] at hq
       cases g2 : decide (c ≤ 1)
       ·have g3 : decide (1 < c) = true := by simp at g2 ⊢; omega
        rw [g2] at hq
        have H := hide (show R = false by rw [HQ9.out, hq]; rfl)
        clear hq
        go_wp2_with fail
        refine wp_still_all (by kernel_rfl) (by kernel_rfl) ?_
        repeat (first | ((with_reducible refine wpStill_step (fun K hK => ?_)); go_simp; (try go_bits); (with_reducible refine hK _ ?_); clear hK K) | ((with_reducible refine wpStill_step (fun K hK => ?_)); go_simp; rw [if_neg (by simp [undef])]; (with_reducible refine hK _ ?_); clear hK K))
        (with_reducible refine wpStill_nil ?_)
        go_wp2
        go_ret
        exact ⟨ret_bool H.out.symm, kcall HK9.out HB2d.out⟩
       ·have g3 : decide (1 < c) = false := by simp at g2 ⊢; omega
        rw [g2] at hq
        have H := hide (hq.trans (show _ = lastGo (parts.drop (k + 1)) (m.drop (k + 1)) by simp))
        clear hq
        go_wp2_with fail
        refine wp_still_all (by kernel_rfl) (by kernel_rfl) ?_
        repeat (first | ((with_reducible refine wpStill_step (fun K hK => ?_)); go_simp; (try go_bits); (with_reducible refine hK _ ?_); clear hK K) | ((with_reducible refine wpStill_step (fun K hK => ?_)); go_simp; rw [if_neg (by simp [undef])]; (with_reducible refine hK _ ?_); clear hK K))
        (with_reducible refine wpStill_nil ?_)
        go_wp2
        go_roundw
        case rel => exact ⟨k + 1, by omega, by go_num, H, HB2d⟩
        case measure => simp [nI]; omega
     ·obtain rfl : c = 1 := by simpa using g1
      by_cases h0 : ptext.size = 0
      ·obtain rfl := str_empty h0
       rw [g1, decide_eq_true h0] at hq
       have H := hide (hq.trans (show _ = lastGo (parts.drop (k + 1)) (m.drop (k + 1)) by simp))
       clear hq h0 g1
       go_wp2_with fail
       refine wp_still_all (by kernel_rfl) (by kernel_rfl) ?_
       repeat (first | ((with_reducible refine wpStill_step (fun K hK => ?_)); go_simp; (try go_bits); (with_reducible refine hK _ ?_); clear hK K) | ((with_reducible refine wpStill_step (fun K hK => ?_)); go_simp; rw [if_neg (by simp [undef])]; (with_reducible refine hK _ ?_); clear hK K))
       (with_reducible refine wpStill_nil ?_)
       go_wp2
       go_roundw
       case rel => exact ⟨k + 1, by omega, by go_num, H, HB2d⟩
       case measure => simp [nI]; omega
      ·have e1 := str_ne h0
       rw [g1, decide_eq_false h0] at hq
       have H := hide (show R = false by rw [HQ9.out, hq]; rfl)
       clear hq g1
       go_wp2_with fail
       refine wp_still_all (by kernel_rfl) (by kernel_rfl) ?_
       repeat (first | ((with_reducible refine wpStill_step (fun K hK => ?_)); go_simp; (try go_bits); (with_reducible refine hK _ ?_); clear hK K) | ((with_reducible refine wpStill_step (fun K hK => ?_)); go_simp; rw [if_neg (by simp [undef])]; (with_reducible refine hK _ ?_); clear hK K))
       (with_reducible refine wpStill_nil ?_)
       go_wp2
       go_ret
       exact ⟨ret_bool H.out.symm, kcall HK9.out HB2d.out⟩
    ·have hq := HQ.out
     rw [List.drop_of_length_le (show parts.length ≤ k by omega)] at hq
     have H := hide (show R = true by rw [HQ9.out, hq]; rfl)
     clear hq
     go_wp2
     go_ret
     exact ⟨ret_bool H.out.symm, kcall HK9.out HB1.out⟩
end Go.Proofs.YtkfdafeonhnloaaGreatDoor
