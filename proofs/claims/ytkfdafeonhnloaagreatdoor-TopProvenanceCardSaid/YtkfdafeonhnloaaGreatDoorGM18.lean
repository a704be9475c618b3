/-
  chart.lays: the closure that lays: too few words; a part that is a word.
  chart.lays: the closure that lays: a part that is a category; all together.
  chart.lays: the iterator.
  The chart under way: what is read, what is known.
-/
import Derived.Test.YtkfdafeonhnloaaGreatDoorGM17
import Derived.Test.YtkfdafeonhnloaaGreatDoorGM14
namespace Go.Proofs.YtkfdafeonhnloaaGreatDoor
open Go.RowKit Go.Shelf Go.Mine Go.Mine.C
attribute [local go_sem] Oper.semAt_some
section
variable {cb pB uB eB cB lB mk mw : Nat} {g : GramH} {iA : Option Addr} {nI iC : Nat} {nn : Int} {pA : Option Addr} {pC : Nat} {parts : List PartM} {u : Int} {ws : Int → List Str} {R : Nat → Prop} {lp N base m : Nat} {L : List (List Int)} {J : Nat → (Nat → Prop) → World → Prop} {Jx : Unit → (Nat → Prop) → World → Prop} {O0 : Nat → Prop}
set_option maxRecDepth 100000 in
set_option maxHeartbeats 4000000 in
theorem lay147_short (hu : 0 ≤ u ∧ u ≤ 16) (p1 : PartM) (rest : List PartM) (i : Int) (hshort : u - i < (rest.length : Int) + 1) (n p : Nat) (pre : List Int) (k0 : Nat) (O : Nat → Prop) (W : World) (hdrop : parts.drop p = p1 :: rest) (hi0 : 0 ≤ i) (hi16 : i ≤ 16) 
  (hIn : LayIn cb pB uB eB cB lB mk mw g iA nI iC nn pA pC parts u ws R W) (hE : EndsIn eB base O W pre) (hJ0 : J k0 O W) (hO : ∀ b, O b → (O0 b ∨ base ≤ b) ∧ b < W.heap.size) (hbase : base ≤ W.heap.size) :
  CallsIn Fence.wide n Tryz.prog 147 #[.int .i64 p, .int .i64 i, .func (.yield lp) #[] #[], .pointer (some ⟨pB, 0, none⟩), .pointer (some ⟨uB, 0, none⟩), .pointer (some ⟨eB, 0, none⟩), .pointer (some ⟨cB, 0, none⟩), .pointer (some ⟨lB, 0, none⟩)] W fun e W' =>
   ∃ O', (∀ b, O' b → (O0 b ∨ base ≤ b) ∧ b < W'.heap.size) ∧ base ≤ W'.heap.size ∧ LayIn cb pB uB eB cB lB mk mw g iA nI iC nn pA pC parts u ws R W' ∧
    ((e = .returned (.bool true) ∧ EndsIn eB base O' W' pre ∧ J (k0 + (laysL (hasW ws) (p1 :: rest) i u).length) O' W') ∨ (e = .returned (.bool false) ∧ Jx () O' W')) := by
 have hlen : laysL (hasW ws) (p1 :: rest) i u = [] := by unfold laysL; rw [if_pos hshort]
 rw [hlen]
 have hpl : p + (rest.length + 1) = parts.length := by
  have := congrArg List.length hdrop
  simp at this; omega
 have c0 := hIn.pb.cell (v := .slice pA parts.length pC) 0 rfl
 have c1 := hIn.ub.cell (v := .int .i64 u) 0 rfl
 have cl0 := hIn.pb.lt
 have cl1 := hIn.ub.lt
 have hpm := hIn.psl.max
 have hpc := hIn.psl.le
 have HIN := hide hIn
 have HE := hide hE
 have HO := hide hO
 have HJ0 := hide hJ0
 have g0 : ((parts.length : Int) - (p : Nat) == 0) = false := by simp; omega
 have g1 : decide (u - i < (parts.length : Int) - (p : Nat)) = true := decide_eq_true (by omega)
 clear hIn hE hO hJ0 hdrop hlen
 generalize rest.length = q at *
 refine callsIn_of_wp Tryz.func147 rfl trivial ?_ rfl
 simp only [Tryz.ntmps147]
 simp only [List.size_toArray, List.length_cons, List.length_nil, Nat.reduceAdd, Nat.reduceSub, Array.replicate_succ, Array.replicate_zero, List.push_toArray, List.append_toArray, List.nil_append, List.cons_append]
 gi_wp2
 refine bodyPost_ret (v := .bool true) (by simp [results, Tryz.results147, go_sem]) rfl ?_
 exact ⟨O, HO.out, hbase, HIN.out, .inl ⟨rfl, HE.out, HJ0.out⟩⟩
set_option maxRecDepth 100000 in
set_option maxHeartbeats 4000000 in
theorem lay147_text (hJ : XStable J) (hR : ∀ b, R b → b < base ∧ b ≠ eB) (hu : 0 ≤ u ∧ u ≤ 16) (p1 : PartM) (rest : List PartM) (hpt : ¬ p1.text.size = 0) (ih : LaySpec cb pB uB eB cB lB mk mw g iA nI iC nn pA pC parts u ws R lp N base L J Jx O0 rest) (i : Int) (hshort : ¬ u - i < (rest.length : Int) + 1) (n p : Nat) (pre : List Int) (k0 : Nat) (O : Nat → Prop) (W : World) (hdrop : parts.drop p = p1 :: rest) (hp : p ≤ parts.length) (hi0 : 0 ≤ i) (hi16 : i ≤ 16) 
  (hpre : pre.length + (rest.length + 1) ≤ 16) (hN : k0 + (laysL (hasW ws) (p1 :: rest) i u).length ≤ N) (hL : ∀ j x, (laysL (hasW ws) (p1 :: rest) i u)[j]? = some x → L[k0 + j]? = some (pre ++ x))
  (hIn : LayIn cb pB uB eB cB lB mk mw g iA nI iC nn pA pC parts u ws R W) (hE : EndsIn eB base O W pre) (hJ0 : J k0 O W) (hO : ∀ b, O b → (O0 b ∨ base ≤ b) ∧ b < W.heap.size) (hbase : base ≤ W.heap.size) :
  CallsIn Fence.wide n Tryz.prog 147 #[.int .i64 p, .int .i64 i, .func (.yield lp) #[] #[], .pointer (some ⟨pB, 0, none⟩), .pointer (some ⟨uB, 0, none⟩), .pointer (some ⟨eB, 0, none⟩), .pointer (some ⟨cB, 0, none⟩), .pointer (some ⟨lB, 0, none⟩)] W fun e W' =>
   ∃ O', (∀ b, O' b → (O0 b ∨ base ≤ b) ∧ b < W'.heap.size) ∧ base ≤ W'.heap.size ∧ LayIn cb pB uB eB cB lB mk mw g iA nI iC nn pA pC parts u ws R W' ∧
    ((e = .returned (.bool true) ∧ EndsIn eB base O' W' pre ∧ J (k0 + (laysL (hasW ws) (p1 :: rest) i u).length) O' W') ∨ (e = .returned (.bool false) ∧ Jx () O' W')) := by
 have hcat : p1.isCat = false := by unfold PartM.isCat; exact decide_eq_false hpt
 have hpl : p + (rest.length + 1) = parts.length := by
  have := congrArg List.length hdrop
  simp at this; omega
 have hpg : parts[p]? = some p1 := by
  have := congrArg (fun l => l[0]?) hdrop
  simpa using this
 have hdrop' : parts.drop (p + 1) = rest := by
  have := congrArg List.tail hdrop
  simpa using this
 obtain ⟨q1, b, off, hq1, _, hA, hbw, d0, d1, d2⟩ := part_at hIn.psl (k := p) (by omega)
 obtain rfl : p1 = q1 := by rw [hpg] at hq1; exact Option.some.inj hq1
 have hplt : p < parts.length := by omega
 obtain ⟨nw, wm, hm1, hm2⟩ := hIn.words.map
 obtain ⟨A, c, hw1, hw2, hw3⟩ := hm2 i
 have hlk := hm1.drew.look Tryz.underlying3 Tryz.underlying162 (Tryz.zeroValue22 W.drew) (k := i) (by unfold I64; omega)
 rw [hw1] at hlk
 have K1 := hide ((contains148 A c (ws i) p1.text W.drew hw2.drew).mono fun e w' h => And.intro h.1 h.2.symm)
 have c0 := hIn.pb.cell (v := .slice pA parts.length pC) 0 rfl
 have c1 := hIn.ub.cell (v := .int .i64 u) 0 rfl
 have c2 := hIn.cbx.cell (v := .pointer (some ⟨cb, 0, none⟩)) 0 rfl
 have c3 := hIn.chart.cell (v := .map (some mw)) 9 rfl
 have c4 := hIn.lb.cell (v := _) 0 rfl
 have cl0 := hIn.pb.lt
 have cl1 := hIn.ub.lt
 have cl2 := hIn.cbx.lt
 have cl3 := hIn.chart.lt
 have cl4 := hIn.lb.lt
 have hpm := hIn.psl.max
 have hpc := hIn.psl.le
 have HIN := hide hIn
 have HE := hide hE
 have HO := hide hO
 have HJ0 := hide hJ0
 have HIH := hide ih
 have HL := hide hL
 have HN := hide hN
 have g0 : ((parts.length : Int) - (p : Nat) == 0) = false := by simp; omega
 have g1 : decide (u - i < (parts.length : Int) - (p : Nat)) = false := decide_eq_false (by omega)
 have g2 := str_ne hpt
 have HLEN := hide (show laysL (hasW ws) (p1 :: rest) i u = if hasW ws i p1.text = true then laysL (hasW ws) rest (i + 1) u else [] by
  conv => lhs; unfold laysL
  rw [if_neg hshort, if_neg (by rw [hcat]; decide)])
 subst hA
 clear hIn hE hO hJ0 ih hL hN hm1 hm2 hw1 hw2 hw3 hpt hcat hdrop hq1
 have HHAS := hide (show hasW ws i p1.text = inL (ws i) p1.text from rfl)
 cases hh : inL (ws i) p1.text
 ·rw [hh] at K1
  have hlen := HLEN.out
  rw [HHAS.out, hh, if_neg (by decide)] at hlen
  rw [hlen]
  clear HLEN hlen hh HHAS HL HN HIH
  generalize rest.length = q at *
  refine callsIn_of_wp Tryz.func147 rfl trivial ?_ rfl
  simp only [Tryz.ntmps147]
  simp only [List.size_toArray, List.length_cons, List.length_nil, Nat.reduceAdd, Nat.reduceSub, Array.replicate_succ, Array.replicate_zero, List.push_toArray, List.append_toArray, List.nil_append, List.cons_append]
  gi_wp2_with fail
  refine wpIn_region_still_lit (ro := none) (by kernel_rfl) (by kernel_rfl) ?_
  repeat (first | ((with_reducible refine wpStill_step (fun K hK => ?_)); go_simp; (try go_bits); (with_reducible refine hK _ ?_); clear hK K) | ((with_reducible refine wpStill_step (fun K hK => ?_)); go_simp; with_reducible refine ⟨_, K1.out, ?_⟩; (with_reducible refine hK _ ?_); clear hK K) | ((with_reducible refine wpStill_step (fun K hK => ?_)); go_simp; rw [if_neg (by simp [undef])]; (with_reducible refine hK _ ?_); clear hK K))
  (with_reducible refine wpStill_nil ?_)
  gi_wp2
  refine bodyPost_ret (v := .bool true) (by simp [results, Tryz.results147, go_sem]) rfl ?_
  exact ⟨O, HO.out, hbase, HIN.out.bel (Below.refl _ _).drew, .inl ⟨rfl, HE.out.keep fun _ _ _ => rfl, hJ _ _ _ _ _ HJ0.out (XStep.of_below (Below.refl _ _).drew fun b hb => .inl hb)⟩⟩
 ·rw [hh] at K1
  have hlen := HLEN.out
  rw [HHAS.out, hh, if_pos rfl] at hlen
  rw [hlen] at HL HN ⊢
  clear HLEN hlen hh HHAS
  have K2 := HIH.out (n - 1) (p + 1) (i + 1) pre k0 O W.drew hdrop' (by omega) (by omega) (by omega) (by omega) HN.out HL.out (HIN.out.bel (Below.refl _ _).drew) (HE.out.keep fun _ _ _ => rfl) (hJ _ _ _ _ _ HJ0.out (XStep.of_below (O' := O) (Below.refl _ _).drew fun b hb => .inl hb)) HO.out hbase
  have ec : ((p + 1 : Nat) : Int) = (p : Int) + 1 := by omega
  rw [ec] at K2
  replace K2 := hide K2
  have eg := e147
  clear HL HN HIH hdrop' ec
  refine callsIn_of_wp Tryz.func147 rfl trivial ?_ rfl
  simp only [Tryz.ntmps147]
  simp only [List.size_toArray, List.length_cons, List.length_nil, Nat.reduceAdd, Nat.reduceSub, Array.replicate_succ, Array.replicate_zero, List.push_toArray, List.append_toArray, List.nil_append, List.cons_append]
  gi_wp2_with fail
  refine wpIn_region_still_tail (ro := none) 20 (by kernel_rfl) (by kernel_rfl) ?_
  simp only [List.take_succ_cons, List.take_zero, List.drop_succ_cons, List.drop_zero]
  repeat (first | ((with_reducible refine wpStill_step (fun K hK => ?_)); go_simp; (try go_bits); (with_reducible refine hK _ ?_); clear hK K) | ((with_reducible refine wpStill_step (fun K hK => ?_)); go_simp; with_reducible refine ⟨_, K1.out, ?_⟩; (with_reducible refine hK _ ?_); clear hK K) | ((with_reducible refine wpStill_step (fun K hK => ?_)); go_simp; rw [if_neg (by simp [undef])]; (with_reducible refine hK _ ?_); clear hK K))
  (with_reducible refine wpStill_nil ?_)
  gi_wp2_with fail
  refine K2.out.mono ?_
  rintro e W' ⟨O', hO', hb', hIn', (⟨rfl, hE', hJ'⟩ | ⟨rfl, hJ'⟩)⟩
  ·have HO' := hide hO'
   have HIN' := hide hIn'
   have HE' := hide hE'
   have HJ' := hide hJ'
   clear hO' hIn' hE' hJ' K2
   gi_wp2
   refine bodyPost_ret (v := .bool true) (by simp [results, Tryz.results147, go_sem]) rfl ?_
   exact ⟨O', HO'.out, hb', HIN'.out, .inl ⟨rfl, HE'.out, HJ'.out⟩⟩
  ·have HO' := hide hO'
   have HIN' := hide hIn'
   have HJ' := hide hJ'
   clear hO' hIn' hJ' K2
   gi_wp2
   refine bodyPost_ret (v := .bool false) (by simp [results, Tryz.results147, go_sem]) rfl ?_
   exact ⟨O', HO'.out, hb', HIN'.out, .inr ⟨rfl, HJ'.out⟩⟩
end
end Go.Proofs.YtkfdafeonhnloaaGreatDoor
namespace Go.Proofs.YtkfdafeonhnloaaGreatDoor
open Go.RowKit Go.Shelf Go.Mine Go.Mine.C
attribute [local go_sem] Oper.semAt_some
section
variable {cb pB uB eB cB lB mk mw : Nat} {g : GramH} {iA : Option Addr} {nI iC : Nat} {nn : Int} {pA : Option Addr} {pC : Nat} {parts : List PartM} {u : Int} {ws : Int → List Str} {R : Nat → Prop} {lp N base m : Nat} {L : List (List Int)} {J : Nat → (Nat → Prop) → World → Prop} {Jx : Unit → (Nat → Prop) → World → Prop} {O0 : Nat → Prop}
set_option maxRecDepth 100000 in
set_option maxHeartbeats 4000000 in
theorem lay147_cat (hJ : XStable J) (hR : ∀ b, R b → b < base ∧ b ≠ eB) (hu : 0 ≤ u ∧ u ≤ 16) (heB : eB < base) (p1 : PartM) (rest : List PartM) (hpt : p1.text.size = 0) (ih : LaySpec cb pB uB eB cB lB mk mw g iA nI iC nn pA pC parts u ws R lp N base L J Jx O0 rest) (i : Int) (hshort : ¬ u - i < (rest.length : Int) + 1) (n p : Nat) (pre : List Int) (k0 : Nat) (O : Nat → Prop) (W : World) (hdrop : parts.drop p = p1 :: rest) (hp : p ≤ parts.length) (hi0 : 0 ≤ i) (hi16 : i ≤ 16) 
  (hpre : pre.length + (rest.length + 1) ≤ 16) (hN : k0 + (laysL (hasW ws) (p1 :: rest) i u).length ≤ N) (hL : ∀ j x, (laysL (hasW ws) (p1 :: rest) i u)[j]? = some x → L[k0 + j]? = some (pre ++ x))
  (hIn : LayIn cb pB uB eB cB lB mk mw g iA nI iC nn pA pC parts u ws R W) (hE : EndsIn eB base O W pre) (hJ0 : J k0 O W) (hO : ∀ b, O b → (O0 b ∨ base ≤ b) ∧ b < W.heap.size) (hbase : base ≤ W.heap.size) :
  CallsIn Fence.wide n Tryz.prog 147 #[.int .i64 p, .int .i64 i, .func (.yield lp) #[] #[], .pointer (some ⟨pB, 0, none⟩), .pointer (some ⟨uB, 0, none⟩), .pointer (some ⟨eB, 0, none⟩), .pointer (some ⟨cB, 0, none⟩), .pointer (some ⟨lB, 0, none⟩)] W fun e W' =>
   ∃ O', (∀ b, O' b → (O0 b ∨ base ≤ b) ∧ b < W'.heap.size) ∧ base ≤ W'.heap.size ∧ LayIn cb pB uB eB cB lB mk mw g iA nI iC nn pA pC parts u ws R W' ∧
    ((e = .returned (.bool true) ∧ EndsIn eB base O' W' pre ∧ J (k0 + (laysL (hasW ws) (p1 :: rest) i u).length) O' W') ∨ (e = .returned (.bool false) ∧ Jx () O' W')) := by
 obtain ⟨i0, hi, hz0, hz1, hz2⟩ := info_parts Tryz_infoA3
 have HI := hide hi
 clear hi
 have hcat : p1.isCat = true := by unfold PartM.isCat; exact decide_eq_true hpt
 have hpl : p + (rest.length + 1) = parts.length := by
  have := congrArg List.length hdrop
  simp at this; omega
 have hpg : parts[p]? = some p1 := by
  have := congrArg (fun l => l[0]?) hdrop
  simpa using this
 have hdrop' : parts.drop (p + 1) = rest := by
  have := congrArg List.tail hdrop
  simpa using this
 obtain ⟨q1, b, off, hq1, _, hA, hbw, d0, d1, d2⟩ := part_at hIn.psl (k := p) (by omega)
 obtain rfl : p1 = q1 := by rw [hpg] at hq1; exact Option.some.inj hq1
 have hplt : p < parts.length := by omega
 have ht : p1.text = ByteArray.empty := str_empty hpt
 rw [ht] at d2
 have c0 := hIn.pb.cell (v := .slice pA parts.length pC) 0 rfl
 have c1 := hIn.ub.cell (v := .int .i64 u) 0 rfl
 have cl0 := hIn.pb.lt
 have cl1 := hIn.ub.lt
 have hpm := hIn.psl.max
 have hpc := hIn.psl.le
 have HIN := hide hIn
 have HE := hide hE
 have HO := hide hO
 have HJ0 := hide hJ0
 have HIH := hide ih
 have HR := hide hR
 have g0 : ((parts.length : Int) - (p : Nat) == 0) = false := by simp; omega
 have g1 : decide (u - i < (parts.length : Int) - (p : Nat)) = false := decide_eq_false (by omega)
 obtain ⟨last, hlast⟩ : ∃ last, last = u - (rest.length : Int) := ⟨_, rfl⟩
 obtain ⟨F, hF⟩ : ∃ F : Int → List (List Int), F = fun m => (laysL (hasW ws) rest m u).map (m :: ·) := ⟨_, rfl⟩
 have HLEN := hide (show laysL (hasW ws) (p1 :: rest) i u = (endsL i last).flatMap F by
  conv => lhs; unfold laysL
  rw [if_neg hshort, if_pos hcat, hF, hlast])
 have HFE := hide hF
 rw [HLEN.out] at hN hL ⊢
 have HL := hide hL
 have HN := hide hN
 have HLA := hide hlast
 have hlo : i + 1 ≤ last ∧ last ≤ 16 := by omega
 have HDR := hide hdrop'
 have hlp : last = u - ((parts.length : Int) - (p : Nat)) + 1 := by omega
 have HLP := hide hlp
 clear hlp
 subst hA
 clear hIn hE hO hJ0 ih hL hN hpt hcat hdrop hq1 hF hlast hdrop' hpg HLEN ht hR hi16
 refine callsIn_of_wp Tryz.func147 rfl trivial ?_ rfl
 simp only [Tryz.ntmps147]
 simp only [List.size_toArray, List.length_cons, List.length_nil, Nat.reduceAdd, Nat.reduceSub, Array.replicate_succ, Array.replicate_zero, List.push_toArray, List.append_toArray, List.nil_append, List.cons_append]
 gi_wp2
 clear c0 c1 cl0 cl1 d0 d1 d2 g0 g1 hbw
 gi_loopw [13] (fun iv wr => ∃ (j : Nat) (Oj : Nat → Prop), iv = .int .i64 (i + 1 + (j : Int)) ∧ Hid (j ≤ (last - i).toNat) ∧ Hid (J (k0 + (((endsL i last).take j).flatMap F).length) Oj wr) ∧ Hid (EndsIn eB base Oj wr pre) ∧ Hid (LayIn cb pB uB eB cB lB mk mw g iA nI iC nn (some ⟨b, off, none⟩) pC parts u ws R wr) ∧ Hid (∀ b, Oj b → (O0 b ∨ base ≤ b) ∧ b < wr.heap.size) ∧ Hid (base ≤ wr.heap.size)) (fun iv _ => (last + 1 - Go.Mine.nI iv).toNat)
 case atStart =>
  exact ⟨0, O, by simp, hide (Nat.zero_le _), hide (by simpa using HJ0.out), HE, HIN, HO, hide hbase⟩
 case round =>
  clear HE HIN HO HJ0
  obtain ⟨j, Oj, rfl, HJN, HJJ, HEJ, HIJ, HOJ, HZJ⟩ := hrel
  have c1 := HIJ.out.ub.cell (v := .int .i64 u) 0 rfl
  have cl1 := HIJ.out.ub.lt
  have hjn := HJN.out
  by_cases hlt : j < (last - i).toNat
  ·have g5 : decide (i + 1 + (j : Int) ≤ u - ((parts.length : Int) - (p : Nat)) + 1) = true := decide_eq_true (by have := HLP.out; omega)
   have hm := endsL_get hlt
   obtain ⟨mm, hmm⟩ : ∃ mm, mm = i + 1 + (j : Int) := ⟨_, rfl⟩
   have hmb : 0 ≤ mm ∧ mm ≤ 16 := by omega
   rw [← hmm] at hm g5 ⊢
   have HFM := hide (flat_take (f := F) hm)
   have hcnt : k0 + (((endsL i last).take j).flatMap F).length + (laysL (hasW ws) rest mm u).length ≤ N := by
    have h1 := flat_take_le F (endsL i last) (j + 1)
    have h2 := HFM.out
    have h3 := HN.out
    have h4 : (F mm).length = (laysL (hasW ws) rest mm u).length := by rw [HFE.out]; simp
    omega
   have hLJ : ∀ jj x, (laysL (hasW ws) rest mm u)[jj]? = some x → L[k0 + (((endsL i last).take j).flatMap F).length + jj]? = some ((pre ++ [mm]) ++ x) := fun jj x hx => by
    have := HL.out _ _ (flat_idx (f := F) hm (jj := jj) (y := mm :: x) (by rw [HFE.out, List.getElem?_map, hx]; rfl))
    rw [Nat.add_assoc, this]
    simp
   have HCN := hide hcnt
   have HLJ := hide hLJ
   have HMM := hide hmm
   obtain ⟨v, hv1, hv2, hv3⟩ := HEJ.out.ex
   obtain ⟨A0, cc0, hve, hsl0⟩ := hv2.sl
   generalize hnl0 : pre.length = n0 at hve hpre
   have HN0 := hide hnl0
   subst hve
   have x0 := hv1.cell (v := .slice A0 n0 cc0) 0 rfl
   have xl := hv1.lt
   have HV1 := hide hv1
   have HV2 := hide hv2
   have HV3 := hide hv3
   clear hm hcnt hLJ hmm hv1 hv2 hv3 hsl0 hnl0 hjn
   gi_wp2_with (gi_at_builtin; refine wpListIn_append rfl (.tmp 74) (.tmp 76) 31 rfl rfl rfl (run_extend (f := ic) (base := base) (l1 := pre) (l2 := [mm]) Tryz.underlying31 HI.out hz0 hz1 hz2 rfl (by decide) (HV2.out.alloc _) (Sl.one (Blk.new _ _ _) (by rfl) rfl (by decide) (by decide)) (ones141 _) ?_ ?_ ?_) ?_)
   ·have := HN0.out; simp only [List.length_singleton]; unfold maxLen; omega
   ·have := HN0.out; simp only [List.length_singleton]; omega
   ·have := HZJ.out; simp; omega
   ·intro v9 w9 hO9 hg9 hat9
    obtain ⟨A9, c9, hv9, hsl9⟩ := hO9.sl
    clear hsl9
    generalize hn9 : (pre ++ [mm]).length = n9 at hv9
    have HN9 := hide hn9
    clear hn9
    subst hv9
    have hS2 : (wr.alloc (.cells #[.int .i64 mm] 3)).heap.size = wr.heap.size + 1 := by simp
    have hX9 : Blk w9 eB 31 #[.slice A0 n0 cc0] := (HV1.out.alloc _).grown hg9 (fun e => by have := (HV2.out.blk e.symm).1; omega)
    have z9 := hX9.thaw 0
    have p9 := hX9.cell (v := .slice A0 n0 cc0) 0 rfl
    have hl9 := hX9.lt
    have hz9 := hg9.size
    have hsc9 : (w9.setCell ⟨eB, 0, none⟩ (.slice A9 n9 c9)).heap.size = w9.heap.size := by simp [World.setCell]
    have hrow9 : ∀ g, (Value.slice A9 n9 c9).ownBlock = some g → base ≤ g ∧ g < w9.heap.size := fun g hg => ⟨(hO9.blk hg).1, (hO9.blk hg).2.1⟩
    have hkp : ∀ b, b < wr.heap.size → b ≠ eB → some b ≠ (Value.slice A0 n0 cc0).ownBlock → (w9.setCell ⟨eB, 0, none⟩ (.slice A9 n9 c9)).heap[b]? = wr.heap[b]? := fun b hb h1 h2 => (Below.heap_setCell _ _ _ _ h1).trans ((hg9.block b (by omega) h2).trans (Below.heap_alloc _ _ _ hb))
    have HST : Hid (XStep Oj (fun b => Oj b ∨ (Value.slice A9 n9 c9).ownBlock = some b) wr (w9.setCell ⟨eB, 0, none⟩ (.slice A9 n9 c9))) := hide
     ⟨hg9.os, hg9.tape, hg9.output, by rw [hsc9]; omega, fun b hb hnO => hkp b hb (fun e => hnO (e ▸ HEJ.out.o)) (fun e => hnO (HV3.out b e.symm)), fun b hb => by
      rcases hb with hb | hb
      ·exact .inl hb
      ·rcases hat9 b hb with h1 | h1
       ·exact .inl (HV3.out b h1)
       ·exact .inr ⟨by omega, by rw [hsc9]; exact (hrow9 b hb).2⟩⟩
    have HI9 := hide (HIJ.out.keep (W' := w9.setCell ⟨eB, 0, none⟩ (.slice A9 n9 c9)) (by rw [hsc9]; omega) fun b hb hlt => hkp b hlt (HR.out b hb).2 (fun e => by have := (HV2.out.blk e.symm).1; have := (HR.out b hb).1; omega))
    have HE9 : Hid (EndsIn eB base (fun b => Oj b ∨ (Value.slice A9 n9 c9).ownBlock = some b) (w9.setCell ⟨eB, 0, none⟩ (.slice A9 n9 c9)) (pre ++ [mm])) := hide ⟨⟨.slice A9 n9 c9, hX9.set 0 _ rfl, hO9.keep (fun g hg => Below.heap_setCell _ _ _ _ (by have := (hrow9 g hg).1; dsimp only; omega)), fun g hg => .inr hg⟩, .inl HEJ.out.o⟩
    have HJ9 := hide (hJ _ _ _ _ _ HJJ.out HST.out)
    have HO9 : Hid (∀ b, (fun b => Oj b ∨ (Value.slice A9 n9 c9).ownBlock = some b) b → (O0 b ∨ base ≤ b) ∧ b < (w9.setCell ⟨eB, 0, none⟩ (.slice A9 n9 c9)).heap.size) := hide (fun b hb => by
     rw [hsc9]
     rcases hb with hb | hb
     ·exact ⟨(HOJ.out b hb).1, by have := (HOJ.out b hb).2; omega⟩
     ·exact ⟨.inr (hrow9 b hb).1, (hrow9 b hb).2⟩)
    have HZ9 := hide (show base ≤ (w9.setCell ⟨eB, 0, none⟩ (.slice A9 n9 c9)).heap.size by rw [hsc9]; have := HZJ.out; omega)
    have hpp : (pre ++ [mm]).length = n0 + 1 := by rw [List.length_append, HN0.out]; rfl
    have K2 := HIH.out (n - 1) (p + 1) mm (pre ++ [mm]) (k0 + (((endsL i last).take j).flatMap F).length) _ _ HDR.out (by omega) hmb.1 hmb.2 (by rw [hpp]; omega) HCN.out HLJ.out HI9.out HE9.out HJ9.out HO9.out HZ9.out
    have ec : ((p + 1 : Nat) : Int) = (p : Int) + 1 := by omega
    rw [ec] at K2
    replace K2 := hide K2
    have eg := e147
    have b0 := HI9.out.lb.cell (v := _) 0 rfl
    have bl := HI9.out.lb.lt
    clear hO9 hg9 hat9 hX9 hrow9 hkp HST HI9 HE9 HJ9 HO9 HZ9 hpp ec x0 xl HV1 HV2 HV3 hS2 hsc9 HLJ c1 cl1
    gi_wp2_with fail
    refine K2.out.mono ?_
    rintro e W' ⟨O', hO', hb', hIn', (⟨rfl, hE', hJ'⟩ | ⟨rfl, hJ'⟩)⟩
    ·obtain ⟨v2, hq1, hq2, hq3⟩ := hE'.ex
     obtain ⟨A2, cc2, hve2, hsl2⟩ := hq2.sl
     rw [show (pre ++ [mm]).length = n0 + 1 by rw [List.length_append, HN0.out]; rfl] at hve2
     subst hve2
     have y0 := hq1.cell (v := .slice A2 (n0 + 1) cc2) 0 rfl
     have yl := hq1.lt
     have yt := hq1.thaw 0
     have hle2 := hsl2.le
     have hmx2 := hsl2.max
     have hpop := OwnL.pop hq2
     rw [HN0.out] at hpop
     rw [show (pre ++ [mm]).length = n0 + 1 by rw [List.length_append, HN0.out]; rfl] at hle2
     have hscc : (W'.setCell ⟨eB, 0, none⟩ (.slice A2 n0 cc2)).heap.size = W'.heap.size := by simp [World.setCell]
     have HE2 : Hid (EndsIn eB base O' (W'.setCell ⟨eB, 0, none⟩ (.slice A2 n0 cc2)) pre) := hide ⟨⟨.slice A2 n0 cc2, hq1.set 0 _ rfl, hpop.keep (fun g hg => Below.heap_setCell _ _ _ _ (by have := (hpop.blk hg).1; dsimp only; omega)), fun g hg => hq3 g (by cases A2 <;> exact hg)⟩, hE'.o⟩
     have HIN2 := hide (hIn'.keep (W' := W'.setCell ⟨eB, 0, none⟩ (.slice A2 n0 cc2)) (by rw [hscc]; exact Nat.le_refl _) fun b hb _ => Below.heap_setCell _ _ _ _ (HR.out b hb).2)
     have HJ2 := hide (hJ _ _ _ _ _ hJ' (XStep.setCell (O := O') W' ⟨eB, 0, none⟩ (.slice A2 n0 cc2) hE'.o))
     have HO2 : Hid (∀ b, O' b → (O0 b ∨ base ≤ b) ∧ b < (W'.setCell ⟨eB, 0, none⟩ (.slice A2 n0 cc2)).heap.size) := hide (by rw [hscc]; exact hO')
     have HB2 : Hid (base ≤ (W'.setCell ⟨eB, 0, none⟩ (.slice A2 n0 cc2)).heap.size) := hide (by rw [hscc]; exact hb')
     have HC2 := hide (show k0 + (((endsL i last).take j).flatMap F).length + (laysL (hasW ws) rest mm u).length = k0 + (((endsL i last).take (j + 1)).flatMap F).length by
      rw [HFM.out, Nat.add_assoc]; congr 2
      rw [HFE.out]; simp)
     clear hO' hb' hIn' hE' hJ' hq1 hq2 hq3 hsl2 hpop hscc K2 b0 bl HCN
     gi_wp2
     refine ⟨⟨j + 1, O', by rw [HMM.out]; go_num, hide (by omega), hide ?_, HE2, HIN2, HO2, HB2⟩, ?_⟩
     ·rw [← HC2.out]; exact HJ2.out
     ·have := HMM.out; have := HLP.out; simp only [Go.Mine.nI]; omega
    ·have HO' := hide hO'
     have HIN' := hide hIn'
     have HJ' := hide hJ'
     replace hb' := hide hb'
     clear hO' hIn' hJ' K2 HCN
     gi_wp2
     refine bodyPost_ret (v := .bool false) (by simp [results, Tryz.results147, go_sem]) rfl ?_
     exact ⟨O', HO'.out, hb'.out, HIN'.out, .inr ⟨rfl, HJ'.out⟩⟩
  ·have g5 : decide (i + 1 + (j : Int) ≤ u - ((parts.length : Int) - (p : Nat)) + 1) = false := decide_eq_false (by have := HLP.out; omega)
   have hJF := HJJ.out
   rw [List.take_of_length_le (by rw [endsL_len]; omega)] at hJF
   have HJF := hide hJF
   clear hJF HJJ
   gi_wp2
   refine bodyPost_ret (v := .bool true) (by simp [results, Tryz.results147, go_sem]) rfl ?_
   exact ⟨Oj, HOJ.out, HZJ.out, HIJ.out, .inl ⟨rfl, HEJ.out, HJF.out⟩⟩
theorem lay147 (hJ : XStable J) (hY : LayYield R lp N base m L J Jx O0) (hR : ∀ b, R b → b < base ∧ b ≠ eB) (hu : 0 ≤ u ∧ u ≤ 16) (heB : eB < base) : ∀ (ps : List PartM), LaySpec cb pB uB eB cB lB mk mw g iA nI iC nn pA pC parts u ws R lp N base L J Jx O0 ps
 | [] => lay147_nil hJ hY hR hu
 | p1 :: rest => by
  have ih := lay147 hJ hY hR hu heB rest
  intro n p i pre k0 O W hdrop hp hi0 hi16 hpre hN hL hIn hE hJ0 hO hbase
  by_cases hs : u - i < (rest.length : Int) + 1
  ·exact lay147_short hu p1 rest i hs n p pre k0 O W hdrop hi0 hi16 hIn hE hJ0 hO hbase
  ·by_cases ht : p1.text.size = 0
   ·exact lay147_cat hJ hR hu heB p1 rest ht ih i hs n p pre k0 O W hdrop hp hi0 hi16 hpre hN hL hIn hE hJ0 hO hbase
   ·exact lay147_text hJ hR hu p1 rest ht ih i hs n p pre k0 O W hdrop hp hi0 hi16 hpre hN hL hIn hE hJ0 hO hbase
end
end Go.Proofs.YtkfdafeonhnloaaGreatDoor
namespace Go.Proofs.YtkfdafeonhnloaaGreatDoor
open Go.RowKit Go.Shelf Go.Mine Go.Mine.C
attribute [local go_sem] Oper.semAt_some
theorem e149 : ∀ args w, (callFunc 149 args).run Tryz.prog w = .ok (.enter 149 args) w := enters_of Tryz.func149 (by kernel_rfl) rfl
set_option maxRecDepth 100000 in
set_option maxHeartbeats 4000000 in
theorem lays149 (cb pB uB eB cB lB fB mk mw : Nat) (g : GramH) (iA : Option Addr) (nI iC : Nat) (nn : Int) (pA : Option Addr) (pC : Nat) (parts : List PartM) (f u : Int) (ws : Int → List Str) (R : Nat → Prop) (w0 : World)
  (hIn : LayIn cb pB uB eB cB lB mk mw g iA nI iC nn pA pC parts u ws R w0) (hf : Blk w0 fB 3 #[.int .i64 f]) (he : Blk w0 eB 31 #[.slice none 0 0]) (hRf : R fB) (hR : ∀ b, R b → b < w0.heap.size ∧ b ≠ eB) (hu : 0 ≤ u ∧ u ≤ 16) (hf0 : 0 ≤ f ∧ f ≤ 16) (hp : parts.length ≤ 16) :
  IterG Tryz.prog 149 #[.pointer (some ⟨lB, 0, none⟩), .pointer (some ⟨fB, 0, none⟩)] (laysL (hasW ws) parts f u).length (LayY (laysL (hasW ws) parts f u)) none (fun b => b = eB) R w0 := by
 intro n lp J Jx W hwW hRW hJ hJx hY h0
 have hIW := hIn.keep hwW fun b hb _ => (hRW b (.inr hb)).2
 have heW : Blk W eB 31 #[.slice none 0 0] := ⟨Nat.lt_of_lt_of_le he.lt hwW, (hRW eB (.inl rfl)).2.trans he.at_⟩
 have hfW : Blk W fB 3 #[.int .i64 f] := ⟨Nat.lt_of_lt_of_le hf.lt hwW, (hRW fB (.inr hRf)).2.trans hf.at_⟩
 have K2 := lay147 (cb := cb) (pB := pB) (uB := uB) (eB := eB) (cB := cB) (lB := lB) (mk := mk) (mw := mw) (g := g) (iA := iA) (nI := nI) (iC := iC) (nn := nn) (pA := pA) (pC := pC) (parts := parts) (u := u) (ws := ws) (R := R) (lp := lp) (N := (laysL (hasW ws) parts f u).length) (base := W.heap.size) (m := n - 1) (L := laysL (hasW ws) parts f u) (J := J) (Jx := Jx) (O0 := fun b => b = eB)
  hJ hY (fun b hb => ⟨Nat.lt_of_lt_of_le (hR b hb).1 hwW, (hR b hb).2⟩) hu heW.lt parts (n - 1) 0 f [] 0 (fun b => b = eB) W rfl (Nat.zero_le _) hf0.1 hf0.2 (by simpa using hp) (by omega) (fun j x hx => by simpa using hx) hIW
  ⟨⟨.slice none 0 0, heW, OwnL.nil _ _ _ _ _, fun g hg => by simp [Value.ownBlock] at hg⟩, rfl⟩ h0 (fun b hb => ⟨.inl hb, by rw [hb]; exact heW.lt⟩) (Nat.le_refl _)
 rw [Nat.zero_add, show ((0 : Nat) : Int) = 0 from rfl] at K2
 replace K2 := hide K2
 have b0 := hIW.lb.cell (v := _) 0 rfl
 have bl := hIW.lb.lt
 have f0 := hfW.cell (v := .int .i64 f) 0 rfl
 have fl := hfW.lt
 have eg := e147
 clear hIW heW hfW hIn hf he hY h0 hRW hR hu hf0 hp hRf
 refine callsIn_of_wp Tryz.func149 rfl trivial ?_ rfl
 simp only [Tryz.ntmps149]
 simp only [List.size_toArray, List.length_cons, List.length_nil, Nat.reduceAdd, Nat.reduceSub, Array.replicate_succ, Array.replicate_zero, List.push_toArray, List.append_toArray, List.nil_append, List.cons_append]
 gi_wp2_with fail
 refine K2.out.mono ?_
 rintro e W' ⟨O', hO', hb', hIn', (⟨rfl, hE', hJ'⟩ | ⟨rfl, hJ'⟩)⟩
 ·gi_wp2
  refine bodyPost_end (results_none rfl _ _ _) rfl ?_
  exact ⟨O', hO', hb', .inl ⟨⟨_, rfl⟩, hJ'⟩⟩
 ·gi_wp2
  refine bodyPost_end (results_none rfl _ _ _) rfl ?_
  exact ⟨O', hO', hb', .inr ⟨⟨_, rfl⟩, hJ'⟩⟩
structure LayAt (cb mk mw : Nat) (g : GramH) (iA : Option Addr) (nI iC : Nat) (nn : Int) (pA : Option Addr) (pC : Nat) (parts : List PartM) (f u : Int) (lo lB fB : Nat) (w : World) : Prop where
 ex : ∃ pB uB eB cB, Blk w pB 108 #[.slice pA parts.length pC] ∧ Blk w uB 3 #[.int .i64 u] ∧ Blk w cB 99 #[.pointer (some ⟨cb, 0, none⟩)] ∧ Blk w fB 3 #[.int .i64 f] ∧ Blk w eB 31 #[.slice none 0 0] ∧
  Blk w lB 229 #[.func (.func 147) #[] #[.pointer (some ⟨pB, 0, none⟩), .pointer (some ⟨uB, 0, none⟩), .pointer (some ⟨eB, 0, none⟩), .pointer (some ⟨cB, 0, none⟩), .pointer (some ⟨lB, 0, none⟩)]] ∧
  (lo ≤ pB ∧ lo ≤ uB ∧ lo ≤ eB ∧ lo ≤ cB ∧ lo ≤ fB ∧ lo ≤ lB) ∧ (eB ≠ pB ∧ eB ≠ uB ∧ eB ≠ cB ∧ eB ≠ fB ∧ eB ≠ lB)
set_option maxRecDepth 100000 in
set_option maxHeartbeats 4000000 in
theorem lays110 (cb mk mw : Nat) (g : GramH) (iA : Option Addr) (nI iC : Nat) (nn : Int) (pA : Option Addr) (pC : Nat) (parts : List PartM) (f u : Int) (w : World) :
  Calls Tryz.prog 110 #[.pointer (some ⟨cb, 0, none⟩), .slice pA parts.length pC, .int .i64 f, .int .i64 u] w fun e w' => ∃ lB fB, e = .returned (.func (.func 149) #[] #[.pointer (some ⟨lB, 0, none⟩), .pointer (some ⟨fB, 0, none⟩)]) ∧ LayAt cb mk mw g iA nI iC nn pA pC parts f u w.heap.size lB fB w' ∧ Below w.heap.size w w' := by
 go_enter Tryz.func110, Tryz.ntmps110
 go_wp2
 refine bodyPost_ret (v := .func (.func 149) #[] #[.pointer (some ⟨w.heap.size + 1 + 1 + 1 + 1 + 1, 0, none⟩), .pointer (some ⟨w.heap.size + 1 + 1, 0, none⟩)]) (by simp [results, Tryz.results110, go_sem]) rfl ?_
 refine ⟨_, _, rfl, ⟨w.heap.size + 1, w.heap.size + 1 + 1 + 1, w.heap.size + 1 + 1 + 1 + 1, w.heap.size, ?_, ?_, ?_, ?_, ?_, ?_, by omega, by omega⟩, kalloc (kalloc (kalloc (kalloc (kalloc (kalloc (Below.refl _ _) _) _) _) _) _) _⟩
 ·exact ((((Blk.new' (by simp)).alloc _).alloc _).alloc _).alloc _
 ·exact ((Blk.new' (by simp)).alloc _).alloc _
 ·exact (((((Blk.new' (by simp)).alloc _).alloc _).alloc _).alloc _).alloc _
 ·exact (((Blk.new' (by simp)).alloc _).alloc _).alloc _
 ·exact (Blk.new' (by simp)).alloc _
 ·exact Blk.new' (by simp)
end Go.Proofs.YtkfdafeonhnloaaGreatDoor
namespace Go.Mine.C
open Go.RowKit Go.Mine
theorem WordsIn.mono {ws : Int → List Str} {mw : Nat} {R R' : Nat → Prop} {W : World} (h : WordsIn ws mw R W) (hr : ∀ b, R b → R' b) : WordsIn ws mw R' W := by
 obtain ⟨n, m, h1, h2⟩ := h.map
 exact ⟨⟨n, m, h1, fun i => by obtain ⟨A, c, e1, e2, e3⟩ := h2 i; exact ⟨A, c, e1, e2, fun a ha hn => hr _ (e3 a ha hn)⟩⟩, hr _ h.r⟩
structure ChartFix (lo cb mk mw : Nat) (g : GramH) (iA : Option Addr) (iC : Nat) (items : List ItemH) (nn : Int) (ws : Int → List Str) (W : World) : Prop where
 chart : Blk W cb 164 (chartA g iA items.length iC nn mk mw)
 rules : Sl ruleC 5 W g.rA g.rC g.rules
 parts : ∀ r ∈ g.rules, Sl partC 3 W r.pA r.pC r.parts
 its : Sl itemC 6 W iA iC items
 words : WordsIn ws mw (fun b => b < lo ∧ b ≠ mk) W
 lcb : cb < lo ∧ cb ≠ mk
 lrules : ∀ a, g.rA = some a → g.rules ≠ [] → a.block < lo ∧ a.block ≠ mk
 lparts : ∀ r ∈ g.rules, ∀ a, r.pA = some a → r.parts ≠ [] → a.block < lo ∧ a.block ≠ mk
 lits : ∀ a, iA = some a → items ≠ [] → a.block < lo ∧ a.block ≠ mk
 lmk : mk < lo
 size : lo ≤ W.heap.size
theorem ChartFix.keep {lo cb mk mw : Nat} {g : GramH} {iA : Option Addr} {iC : Nat} {items : List ItemH} {nn : Int} {ws : Int → List Str} {W W' : World} (h : ChartFix lo cb mk mw g iA iC items nn ws W) (hz : W.heap.size ≤ W'.heap.size) (hk : ∀ b, b < lo → b ≠ mk → W'.heap[b]? = W.heap[b]?) : ChartFix lo cb mk mw g iA iC items nn ws W' :=
 ⟨Blk.heap h.chart (hk _ h.lcb.1 h.lcb.2), h.rules.keep (fun a ha hn _ => hk _ (h.lrules a ha hn).1 (h.lrules a ha hn).2) hz, fun r hr => (h.parts r hr).keep (fun a ha hn _ => hk _ (h.lparts r hr a ha hn).1 (h.lparts r hr a ha hn).2) hz,
  h.its.keep (fun a ha hn _ => hk _ (h.lits a ha hn).1 (h.lits a ha hn).2) hz, h.words.keep hz fun b hb _ => hk b hb.1 hb.2, h.lcb, h.lrules, h.lparts, h.lits, h.lmk, Nat.le_trans h.size hz⟩
theorem ChartFix.but {lo cb mk mw : Nat} {g : GramH} {iA : Option Addr} {iC : Nat} {items : List ItemH} {nn : Int} {ws : Int → List Str} {W W' : World} {O : Nat → Prop} (h : ChartFix lo cb mk mw g iA iC items nn ws W) (k : KeptBut O W W') (ho : ∀ b, O b → b = mk ∨ lo ≤ b) : ChartFix lo cb mk mw g iA iC items nn ws W' :=
 h.keep k.size fun b hb hm => k.keep b (Nat.lt_of_lt_of_le hb h.size) fun hO => by rcases ho b hO with h1 | h1; exact hm h1; omega
structure ChartSt (X : Nat → Prop) (G : List Goal) (F : Int → Int → Int → Found) (mk : Nat) (W : World) (m : Goal → Option Value) : Prop where
 map : ∃ n cnt, MapG Go.Proofs.Tryz.prog 103 litG okG W mk n m cnt ∧ n ≤ knownN G m
 known : ∀ k v, m k = some v → ∃ h, v = foundV (F k.1 k.2.1 k.2.2) h ∧ FoundR X W (F k.1 k.2.1 k.2.2) h
theorem ChartSt.keep {X : Nat → Prop} {G : List Goal} {F : Int → Int → Int → Found} {mk : Nat} {W W' : World} {m : Goal → Option Value} (h : ChartSt X G F mk W m) (hm : W'.heap[mk]? = W.heap[mk]?) (k : KeepT X W W') : ChartSt X G F mk W' m := by
 obtain ⟨n, cnt, h1, h2⟩ := h.map
 refine ⟨⟨n, cnt, h1.heap hm, h2⟩, fun kk v hv => ?_⟩
 obtain ⟨h3, e, h4⟩ := h.known kk v hv
 exact ⟨h3, e, h4.keep k⟩
theorem ChartSt.lt {X : Nat → Prop} {G : List Goal} {F : Int → Int → Int → Found} {mk : Nat} {W : World} {m : Goal → Option Value} (h : ChartSt X G F mk W m) : mk < W.heap.size := by
 obtain ⟨n, cnt, h1, h2⟩ := h.map
 exact h1.lt
theorem ChartSt.notcells {X : Nat → Prop} {G : List Goal} {F : Int → Int → Int → Found} {mk : Nat} {W : World} {m : Goal → Option Value} (h : ChartSt X G F mk W m) : ∀ cs ty fz, W.heap[mk]? ≠ some (.cells cs ty fz) := by
 obtain ⟨n, cnt, ⟨D, ⟨es, clock, hb, _⟩, _⟩, _⟩ := h.map
 intro cs ty fz e
 rw [hb] at e; cases e
theorem RowT.move {X X' : Nat → Prop} {w w' : World} {A : Option Addr} {c : Nat} {kids : List TreeH} (h : RowT X w A c kids) (k : KeepT X w w') (hx : ∀ b, X' b → X b ∨ w.heap.size ≤ b) : RowT X' w' A c kids :=
 ⟨(h.keep k).sl, (h.keep k).ty, (h.more hx).no⟩
theorem TreeR.move {X X' : Nat → Prop} {w w' : World} {h : TreeH} {t : Tree} (hr : TreeR X w h t) (k : KeepT X w w') (hx : ∀ b, X' b → X b ∨ w.heap.size ≤ b) : TreeR X' w' h t := by
 induction hr with
 | leaf => exact .leaf
 | node hs hl _ ih => exact .node (hs.move k hx) hl fun j h t h1 h2 => ih j h t h1 h2
theorem FoundR.move {X X' : Nat → Prop} {w w' : World} {x : Found} {h : TreeH} (hr : FoundR X w x h) (k : KeepT X w w') (hx : ∀ b, X' b → X b ∨ w.heap.size ≤ b) : FoundR X' w' x h :=
 ⟨fun e => by obtain ⟨t, e1, e2⟩ := hr.yes e; exact ⟨t, e1, e2.move k hx⟩, hr.no⟩
theorem ChartSt.move {X X' : Nat → Prop} {G : List Goal} {F : Int → Int → Int → Found} {mk : Nat} {W W' : World} {m : Goal → Option Value} (h : ChartSt X G F mk W m) (hm : W'.heap[mk]? = W.heap[mk]?) (k : KeepT X W W') (hx : ∀ b, X' b → X b ∨ W.heap.size ≤ b) : ChartSt X' G F mk W' m :=
 ⟨(h.keep hm k).map, fun kk v hv => by obtain ⟨h3, e, h4⟩ := h.known kk v hv; exact ⟨h3, e, h4.move k hx⟩⟩
theorem KeepT.step {X O O' : Nat → Prop} {W W' : World} (s : XStep O O' W W') (hX : ∀ b, O b → X b) : KeepT X W W' :=
 ⟨s.size, fun b cs fz hn e => s.keep b (Array.getElem?_eq_some_iff.1 e).1 fun h => hn (hX b h)⟩
def FindSpec (lo cb mk mw : Nat) (g : GramH) (iA : Option Addr) (iC : Nat) (items : List ItemH) (nn : Int) (ws : Int → List Str) (G : List Goal) (F : Int → Int → Int → Found) (M : Goal → Nat) (z : Goal) : Prop :=
 ∀ (X : Nat → Prop) (W : World) (m : Goal → Option Value), ChartFix lo cb mk mw g iA iC items nn ws W → ChartSt X G F mk W m → (∀ b, X b → b < W.heap.size) →
  Calls Go.Proofs.Tryz.prog 47 #[.pointer (some ⟨cb, 0, none⟩), goalV z] W fun e W' => ∃ (h : TreeH) (m' : Goal → Option Value), e = .returned (foundV (F z.1 z.2.1 z.2.2) h) ∧ FoundR X W' (F z.1 z.2.1 z.2.2) h ∧ ChartSt X G F mk W' m' ∧ (∀ k, M z < M k → m' k = m k) ∧ KeptBut (· = mk) W W'
end Go.Mine.C
