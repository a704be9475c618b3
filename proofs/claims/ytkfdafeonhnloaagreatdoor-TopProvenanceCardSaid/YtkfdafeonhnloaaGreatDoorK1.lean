/-
 The law TopProvenance: the walk.
-/
import Derived.Test.YtkfdafeonhnloaaGreatDoorH1
import Derived.Test.YtkfdafeonhnloaaGreatDoorH2
import Derived.Test.YtkfdafeonhnloaaGreatDoorH3
import Derived.Test.YtkfdafeonhnloaaGreatDoorGM26
namespace Go.Mine
open Go.RowKit
def u8c (n : Int) : List Value := [.int .u8 n]
theorem u8_at {w : World} {A : Option Addr} {c : Nat} {l : List Int} (h : Sl u8c 1 w A c l) {k : Nat} (hk : k < l.length) : ∃ (x : Int) (b off : Nat), l[k]? = some x ∧ A = some ⟨b, off, none⟩ ∧ b < w.heap.size ∧ w.cell? ⟨b, off + k, none⟩ = some (.int .u8 x) := by
 obtain ⟨x, b, off, hx, _, e, hb, hc⟩ := h.at_ hk
 exact ⟨x, b, off, hx, e, hb, by simpa using hc 0 _ rfl⟩
theorem one_sl {W : World} {b : Nat} {x : Int} (h : Blk W b 3 #[.int .i64 x]) : Sl ic 1 W (some ⟨b, 0, none⟩) 1 [x] := Sl.one h rfl rfl (Nat.le_refl _) (by decide)
theorem one_own {W : World} {b base : Nat} {x : Int} (h : Blk W b 3 #[.int .i64 x]) (hb : base ≤ b) : OwnL ic 1 3 W base (.slice (some ⟨b, 0, none⟩) 1 1) [x] :=
 ⟨⟨rfl, .inr ⟨b, 1, _, rfl, hb, h.at_, by simp, by simp [maxLen], by simp, by simp [ic]⟩⟩, fun _ _ => rfl⟩
end Go.Mine
namespace Go.Proofs.YtkfdafeonhnloaaGreatDoor
open Go.RowKit Go.Shelf Go.Mine Go.Mine.C
attribute [local go_sem] Oper.semAt_some
theorem made5 (n : Nat) (w : World) (hn : n ≤ 5000) : OwnL ic 1 3 (w.alloc (.cells (madeCells #[Value.int .i64 0] n) 3)) w.heap.size (.slice (some ⟨w.heap.size, 0, none⟩) n n) (List.replicate n (0 : Int)) := by
 have hf : ∀ n : Nat, (List.replicate n (0 : Int)).flatMap ic = List.replicate n (Value.int .i64 0) := fun n => by
  induction n with
  | zero => rfl
  | succ n ih => rw [List.replicate_succ, List.flatMap_cons, ih, List.replicate_succ]; rfl
 have hm : (madeCells #[Value.int .i64 0] n).toList = List.replicate n (Value.int .i64 0) := by
  refine List.ext_getElem? fun i => ?_
  by_cases h : i < n
  ·simp [madeCells, h, Nat.mod_one]
  ·simp [madeCells, h]
 have hsz : (madeCells #[Value.int .i64 0] n).size = n := by rw [← Array.length_toList, hm]; simp
 refine ⟨⟨by rw [hf]; simp, .inr ⟨w.heap.size, n, _, by simp, Nat.le_refl _, heap_new _ _, by simp, by simp only [maxLen]; omega, by rw [hsz]; omega, ?_⟩⟩, fun _ _ => rfl⟩
 rw [hm, hf]
 simp
theorem fill_set {N k : Nat} (h : k < N) : (P.rng (k : Nat) ++ List.replicate (N - k) (0 : Int)).set k (k : Int) = P.rng ((k + 1 : Nat)) ++ List.replicate (N - (k + 1)) 0 := by
 have e1 : N - k = (N - (k + 1)) + 1 := by omega
 have e2 : P.rng ((k + 1 : Nat)) = P.rng (k : Nat) ++ [(k : Int)] := by rw [Int.natCast_succ, P.rng_succ]
 have e3 : (P.rng (k : Nat)).length = k := by rw [P.rng_length]; simp
 rw [e1, List.replicate_succ, List.set_append_right _ _ (by omega), e3, Nat.sub_self, List.set_cons_zero, e2, List.append_assoc]
 rfl
theorem fill_get {N k : Nat} (h : k < N) : (P.rng (k : Nat) ++ List.replicate (N - k) (0 : Int))[k]? = some 0 := by
 have e3 : (P.rng (k : Nat)).length = k := by rw [P.rng_length]; simp
 rw [List.getElem?_append_right (by omega), e3, Nat.sub_self, List.getElem?_replicate, if_pos (by omega)]
set_option maxRecDepth 200000 in
set_option maxHeartbeats 16000000 in
theorem law3 (g : GramH) (lA : Option Addr) (lC : Nat) (l : List TermH) (lang : Int) (wA : Option Addr) (wC : Nat) (words : List ByteArray) (at_ known : Int) (which : Int) (other : ByteArray) (sA : Option Addr) (sC : Nat) (slots : List Int) (w : World)
  (hG : GramOk w g) (hgs : GramS g) (hl : Sl termC 8 w lA lC l) (hlo : ∀ x ∈ l, TermOk w x) (hw : Sl sc 1 w wA wC words) (hE : Env w) (hs : Sl u8c 1 w sA sC slots) (hwh : 0 ≤ which ∧ which < 256) (hsb : ∀ s ∈ slots, 0 ≤ s ∧ s < 256) :
  Calls Tryz.prog 3 #[gramV g, .slice lA l.length lC, .int .i64 lang, .slice wA words.length wC, .int .i64 at_, .int .i64 known, .int .u8 which, .string other, .slice sA slots.length sC] w fun e w' => e = .returned (.bool true) ∧ Below w.heap.size w w' := by
 obtain ⟨W0, hW0⟩ : ∃ W0, W0 = ((w.alloc (.cells #[.string g.name, .slice g.cA g.cats.length g.cC, .string g.start, .int .i64 g.startNo, .slice g.eA g.entries.length g.eC, .slice g.rA g.rules.length g.rC] 26)).alloc (.cells #[.int .i64 1, .int .i64 0] 3)).alloc (.cells #[.slice (some ⟨w.heap.size + 1, 0, none⟩) 2 2] 31) := ⟨_, rfl⟩
 have hb0 : Below w.heap.size w W0 := by rw [hW0]; exact kalloc (kalloc (kalloc (Below.refl _ _) _) _) _
 have hg0 : Blk W0 w.heap.size 26 #[.string g.name, .slice g.cA g.cats.length g.cC, .string g.start, .int .i64 g.startNo, .slice g.eA g.entries.length g.eC, .slice g.rA g.rules.length g.rC] := by rw [hW0]; exact ((Blk.new w _ _).alloc _).alloc _
 have hq1 : Blk W0 (w.heap.size + 1) 3 #[.int .i64 1, .int .i64 0] := by rw [hW0]; exact (Blk.new1 w _ _ _).alloc _
 have hq2 : Blk W0 (w.heap.size + 2) 31 #[.slice (some ⟨w.heap.size + 1, 0, none⟩) 2 2] := by rw [hW0]; exact Blk.new2 w _ _ _ _
 have hrel : Rel W0 (some ⟨w.heap.size + 2, 0, none⟩) 1 [[1, 0]] := ⟨[(some ⟨w.heap.size + 1, 0, none⟩, 2, [1, 0])], rfl, Sl.one hq2 rfl rfl (Nat.le_refl _) (show (1 : Nat) ≤ 9223372036854775807 by decide), fun e he => by
  obtain rfl : e = _ := by simpa using he
  exact Sl.ofBlk hq1 rfl (fun _ _ => rfl) (show 2 ≤ 2 by decide) (show (2 : Nat) ≤ 9223372036854775807 by decide)⟩
 have K4 := hide (show Calls Tryz.prog 4 #[.slice (some ⟨w.heap.size + 2, 0, none⟩) 1 1, .int .i64 2] W0 fun e w' => e = .returned (.int .i64 310) ∧ Below W0.heap.size W0 w' from Pv.check13_any (some ⟨w.heap.size + 2, 0, none⟩) 1 [[1, 0]] 2 W0 hrel)
 have HB0 := hide hb0
 have HG0 := hide hg0
 have HG := hide hG
 have HGS := hide hgs
 have HL := hide hl
 have HLO := hide hlo
 have HW := hide hw
 have HE := hide hE
 have HS := hide hs
 have HSB := hide hsb
 have hll := hl.le
 have hlm := hl.max
 have hwl := hw.le
 have hwm := hw.max
 have hsl := hs.le
 have hsm := hs.max
 have hgl := hG.cats.le
 have hgm := hG.cats.max
 clear hb0 hg0 hq1 hq2 hrel hG hgs hl hlo hw hE hs hsb
 simp only [gramV]
 go_enter Tryz.func3, Tryz.ntmps3
 go_wp2_with fail
 rw [← hW0]
 refine K4.out.mono ?_
 rintro e W1 ⟨rfl, hb1⟩
 have HBG1 := hide hb1
 have HB1 := hide (kcall HB0.out hb1)
 clear hb1 K4 hW0
 have K5 := few5 g lA l.length lC wA wC words W1 (HG.out.bel HB1.out) hll hlm (HW.out.bel HB1.out)
 simp only [gramV] at K5
 replace K5 := hide K5
 have hgk := HG0.out.bel (HBG1.out)
 have c0 := hgk.cell (v := (.string g.name)) 0 rfl
 have c1 := hgk.cell (v := (.slice g.cA g.cats.length g.cC)) 1 rfl
 have c2 := hgk.cell (v := (.string g.start)) 2 rfl
 have c3 := hgk.cell (v := (.int .i64 g.startNo)) 3 rfl
 have c4 := hgk.cell (v := (.slice g.eA g.entries.length g.eC)) 4 rfl
 have c5 := hgk.cell (v := (.slice g.rA g.rules.length g.rC)) 5 rfl
 have cl := hgk.lt
 clear hgk
 go_wp2_with fail
 refine K5.out.mono ?_
 rintro e W2 ⟨⟨b5, rfl, hf5⟩, hb2⟩
 have HBG2 := hide (kcall HBG1.out hb2)
 have HB2 := hide (kcall HB1.out hb2)
 clear hb2 K5 c0 c1 c2 c3 c4 c5 cl HBG1 HB1
 cases b5
 ·go_wp2
  go_ret
  exact ⟨rfl, HB2.out⟩
 have HFEW := hide (hf5 rfl)
 clear hf5
 have hgk := HG0.out.bel (HBG2.out)
 have c0 := hgk.cell (v := (.string g.name)) 0 rfl
 have c1 := hgk.cell (v := (.slice g.cA g.cats.length g.cC)) 1 rfl
 have c2 := hgk.cell (v := (.string g.start)) 2 rfl
 have c3 := hgk.cell (v := (.int .i64 g.startNo)) 3 rfl
 have c4 := hgk.cell (v := (.slice g.eA g.entries.length g.eC)) 4 rfl
 have c5 := hgk.cell (v := (.slice g.rA g.rules.length g.rC)) 5 rfl
 have cl := hgk.lt
 clear hgk
 by_cases h0 : words.length = 0
 ·have q0 : ((words.length : Int) == 0) = true := by simp [h0]
  go_wp2
  go_ret
  exact ⟨rfl, HB2.out⟩
 have q0 : ((words.length : Int) == 0) = false := by simp; intro e; exact h0 (by rw [e]; rfl)
 by_cases h6 : 6 < words.length
 ·have q6 : decide ((6 : Int) < words.length) = true := decide_eq_true (by omega)
  go_wp2
  go_ret
  exact ⟨rfl, HB2.out⟩
 have q6 : decide ((6 : Int) < words.length) = false := decide_eq_false (by omega)
 by_cases hc6 : 6 < g.cats.length
 ·have qc : decide ((6 : Int) < g.cats.length) = true := decide_eq_true (by omega)
  go_wp2
  go_ret
  exact ⟨rfl, HB2.out⟩
 have qc : decide ((6 : Int) < g.cats.length) = false := decide_eq_false (by omega)
 by_cases hsn : slots.length < words.length
 ·have qs : decide ((slots.length : Int) < words.length) = true := decide_eq_true (by omega)
  go_wp2
  go_ret
  exact ⟨rfl, HB2.out⟩
 have qs : decide ((slots.length : Int) < words.length) = false := decide_eq_false (by omega)
 have K6 := translate6 g lA lC l lang wA wC words at_ known W2 (HG.out.bel HB2.out) HGS.out (HL.out.bel HB2.out) (fun x hx => (HLO.out x hx).bel HB2.out) (HW.out.bel HB2.out) (HE.out.bel HB2.out) (by omega)
 simp only [gramV] at K6
 replace K6 := hide K6
 go_wp2_with fail
 refine K6.out.mono ?_
 rintro e W3 ⟨⟨v6, wh, er, rfl, p1, p2, p3, p4, p5⟩, hb3⟩
 have HBG3 := hide (kcall HBG2.out hb3)
 have HB3 := hide (kcall HB2.out hb3)
 have HZ2 := hide HB2.out.size
 have HP1 := hide p1
 have HP2 := hide p2
 have HP3 := hide p3
 have HP4 := hide p4
 have HP5 := hide p5
 clear hb3 K6 p1 p2 p3 p4 p5 c0 c1 c2 c3 c4 c5 cl q0 q6 qc qs HBG2 HB2
 by_cases he : er = 0
 case neg =>
  have g1 : (er == 0) = false := by simpa using he
  have g2 : (er != 0) = true := by rw [bne, g1]; rfl
  have hv := HP3.out he
  subst hv
  clear he
  go_wp2
  go_ret
  exact ⟨rfl, HB3.out⟩
 subst he
 have hpre : preI g lang at_ known l words = true := by
  cases h : preI g lang at_ known l words
  ·exact absurd rfl (HP1.out h)
  ·rfl
 have hall : words.all wordB = true := by
  cases h : words.all wordB
  ·have := HP2.out hpre h; cases this
  ·rfl
 have HPRE := hide hpre
 have HT := hide (TakenP.of hpre hall)
 obtain ⟨ts, hto, htm, htd, hwh⟩ := HP5.out rfl
 have hgt := HT.out.good (by omega)
 rw [← htm] at hgt
 have HGT := hide hgt
 have HTO := hide hto
 have HTM := hide htm
 have HTD := hide htd
 have HWH := hide hwh
 have htl : ts.length ≤ 4096 := by have := hgt.len; rwa [List.length_map] at this
 obtain ⟨tA, tC, rfl, htsl⟩ := hto.sl
 have htle := htsl.le
 have htmx := htsl.max
 have HTS := hide htsl
 clear hpre hall hto htm htd hwh hgt htsl HP1 HP2 HP3 HP4 HP5

 obtain ⟨T, hTd⟩ : ∃ T, T = ts.map TargH.m := ⟨_, rfl⟩
 rw [← hTd] at HGT HTM
 have htlen : T.length = ts.length := by rw [hTd, List.length_map]
 have hget : ∀ (k : Nat) (x : TargH), ts[k]? = some x → T[k]? = some x.m := fun k x h => by rw [hTd, List.getElem?_map, h]; rfl
 have HTG := hide hget
 have HTL := hide htlen
 have HTDF := hide hTd
 have hn6 : words.length ≤ 6 := by omega
 have hn4 : words.length ≤ 4096 := by omega
 have K7 := hide (deps7 tA tC ts W3 HTS.out HTD.out (by omega) (fun x hx => by
  have hm : x.m ∈ T := by rw [hTd]; exact List.mem_map_of_mem hx
  rcases P.below_length (HGT.out.below x.m hm) with h | h
  ·have : x.deps = [] := h
   rw [this]; simp
  ·have : (x.deps.length : Int) ≤ (words.length : Nat) := h
   omega))
 clear hTd hget htlen
 go_wp2_with fail
 refine K7.out.mono ?_
 rintro e W4 ⟨vr, es, rfl, hor, hes, hb4⟩
 have HBG4 := hide (kcall HBG3.out hb4)
 have HB4 := hide (kcall HB3.out hb4)
 have HB34 := hide hb4
 have hrl : ∃ rA rC, vr = .slice rA ts.length rC ∧ Rel W4 rA rC (depsOf T) := by
  obtain ⟨A, c, e, h⟩ := hor.rel
  rw [hes] at e h
  have e2 : ts.map (fun x => x.deps) = depsOf T := by unfold depsOf; rw [HTDF.out, List.map_map]; rfl
  rw [e2] at e h
  rw [depsOf_len, HTL.out] at e
  exact ⟨A, c, e, h⟩
 obtain ⟨rA, rC, rfl, hrel⟩ := hrl
 have HR := hide hrel
 have HRL := hide (show (depsOf T).length = ts.length by rw [depsOf_len]; exact HTL.out)
 have K4 := Pv.check13_any rA rC (depsOf T) words.length W4 hrel
 rw [HGT.out.chk hn4, HRL.out] at K4
 replace K4 := hide K4
 clear hor hes hb4 hrel K7
 go_wp2_with fail
 refine K4.out.mono ?_
 rintro e W5 ⟨rfl, hb5⟩
 have HB5 := hide (kcall HB4.out hb5)
 have HB45 := hide hb5
 have HBG5 := hide (kcall HBG4.out hb5)
 have hrel5 := HR.out.bel hb5
 have HR5 := hide hrel5
 have HTS5 := hide ((HTS.out.bel HB34.out).bel hb5)
 have HTD5 := hide (fun x hx => ((HTD.out x hx).bel HB34.out).bel hb5)
 clear hb5 K4 hrel5 HR HTS HTD HBG3 HB3 HBG4 HB4
 obtain ⟨i0, hi, hz0, hz1, hz2⟩ := info_parts Tryz_infoA3
 have hmk : ∀ w : World, (Instr.makeSlice 31 (.int .i64 (ts.length : Int)) (.int .i64 (ts.length : Int))).run Tryz.prog w = .ok (.slice (some ⟨w.heap.size, 0, none⟩) ts.length ts.length) (w.alloc (.cells (madeCells #[Value.int .i64 0] ts.length) 3)) := fun w => by
  have := run_make_rowN 31 3 i0 _ Tryz.underlying31 hi hz0 .i64 .i64 ts.length ts.length (Nat.le_refl _) (by rw [hz2]; omega) (by omega) w
  rw [hz1, Nat.mul_one] at this; exact this
 have HI := hide hi
 clear hi
 have HO0 : Hid (OwnL ic 1 3 (W5.alloc (.cells (madeCells #[Value.int .i64 0] ts.length) 3)) W5.heap.size (.slice (some ⟨W5.heap.size, 0, none⟩) ts.length ts.length) (P.rng (0 : Nat) ++ List.replicate (ts.length - 0) (0 : Int))) := hide (made5 ts.length W5 (by omega))
 have HB0' := hide (kalloc (Below.refl W5.heap.size W5) (.cells (madeCells #[Value.int .i64 0] ts.length) 3))
 go_wp2
 clear hmk
 go_loopw [116] (fun iv wr => ∃ k : Nat, k ≤ ts.length ∧ iv = .int .i64 k ∧ Hid (OwnL ic 1 3 wr W5.heap.size (.slice (some ⟨W5.heap.size, 0, none⟩) ts.length ts.length) (P.rng (k : Nat) ++ List.replicate (ts.length - k) (0 : Int))) ∧ Hid (Below W5.heap.size W5 wr)) (fun iv _ => ts.length - (Go.Mine.nI iv).toNat)
 case atStart => exact ⟨0, Nat.zero_le _, rfl, HO0, HB0'⟩
 case round =>
  clear HO0 HB0'
  obtain ⟨k, hk, rfl, HO, HB⟩ := hrel
  by_cases hlt : k < ts.length
  ·obtain ⟨gg, cap, e, hg1, hg2, _, _, hfz, hcl, hset⟩ := own_at HO.out (fill_get hlt)
   injection e with e1 e2 e3
   injection e1 with e1
   injection e1 with e1 _ _
   subst e1
   have c9 := hcl 0 (.int .i64 0) rfl
   rw [Nat.mul_one, Nat.add_zero] at c9
   have z9 := hfz k
   have ho9 := hset 0 (.int .i64 (k : Int)) (k : Int) (wr.setCell ⟨W5.heap.size, k * 1 + 0, none⟩ (.int .i64 (k : Int))) rfl (by decide) rfl
   rw [Nat.mul_one, Nat.add_zero, fill_set hlt] at ho9
   have HO9 := hide ho9
   have HB9 := hide (HB.out.setCell (p := ⟨W5.heap.size, k, none⟩) (Nat.le_refl _) (.int .i64 (k : Int)))
   clear hcl hset hfz ho9 e2 e3 HO HB
   go_wp2
   go_roundw
   case rel => exact ⟨k + 1, by omega, by go_num, HO9, HB9⟩
   case measure => simp [Go.Mine.nI]; omega
  ·obtain rfl : k = ts.length := by omega
   have hown := HO.out
   rw [Nat.sub_self, List.replicate_zero, List.append_nil] at hown
   have hrl2 : (P.rng (ts.length : Nat)).length = ts.length := by rw [P.rng_length]; simp
   obtain ⟨A', c', e', hsl'⟩ := hown.sl
   rw [hrl2] at e'
   injection e' with e1 e2 e3
   subst e1 e3
   have hba := HGT.out.back_all hn4
   rw [HTL.out, HRL.out] at hba
   have K8 := Pv.back18_any rA (some ⟨W5.heap.size, 0, none⟩) rC ts.length (depsOf T) words.length (P.rng (ts.length : Nat)) wr (HR5.out.bel HB.out) hsl'
   rw [HRL.out, hrl2, hba.1] at K8
   replace K8 := hide K8
   have HBL := hide hba.2
   have HBw := hide (kcall HB5.out HB.out)
   have HBGw := hide (kcall HBG5.out HB.out)
   have HB5w := hide HB.out
   clear hown hsl' e2 hba HO HB hrl2
   go_wp2_with fail
   refine K8.out.mono ?_
   rintro e W6 ⟨vb, rfl, hob, hb6⟩
   obtain ⟨bA, bC, rfl, _⟩ := hob.sl
   rw [HBL.out]
   have HB6 := hide (kcall HBw.out hb6)
   have HBG6 := hide (kcall HBGw.out hb6)
   have HB56 := hide (kcall HB5w.out hb6)
   clear hob hb6 K8 HBw HBGw HB5w HBL
   obtain ⟨iN, hiN⟩ : ∃ iN : Nat, iN = (which.tmod (words.length : Nat)).toNat := ⟨_, rfl⟩
   have htm := Int.tmod_nonneg (b := ((words.length : Nat) : Int)) hwh.1
   have htm2 := Int.tmod_lt_of_pos which (b := ((words.length : Nat) : Int)) (by omega)
   have hmod : Int.tmod which ((words.length : Nat) : Int) = (iN : Int) := by omega
   have hilt : iN < words.length := by omega
   have hnz : ¬ ((words.length : Nat) : Int) = 0 := by omega
   have HRO := HGT.out.reach_one hn4 (i := (iN : Int)) ⟨by omega, by omega⟩
   have K9 : Hid (∀ (W : World) (b : Nat), Below W6.heap.size W6 W → Blk W b 3 #[.int .i64 (iN : Int)] → Calls Tryz.prog 9 #[.slice rA ts.length rC, .int .i64 words.length, .slice (some ⟨b, 0, none⟩) 1 1] W fun e w' => ∃ v, e = .returned (.tuple #[v, .int .i64 0]) ∧ OwnL ic 1 3 w' W.heap.size v (P.reachL (depsOf T) words.length [(iN : Int)]) ∧ Below W.heap.size W w') := hide (fun W b hb hB => by
    have := Pv.reach16_any rA (some ⟨b, 0, none⟩) rC 1 (depsOf T) words.length [(iN : Int)] W ((HR5.out.bel HB56.out).bel hb) (one_sl hB)
    rw [HRL.out, HRO.1] at this
    exact this)
   have HRNE := hide HRO.2
   clear HRO hiN htm htm2
   go_wp2_with fail
   refine (K9.out _ _ (kalloc (Below.refl _ _) _) (Blk.new _ _ _)).mono ?_
   rintro e W7 ⟨vq, rfl, hoq, hb7⟩
   have hb67 := kcall (kalloc (Below.refl W6.heap.size W6) (.cells #[.int .i64 (iN : Int)] 3)) hb7
   have HB7 := hide (kcall HB6.out hb67)
   have HBG7 := hide (kcall HBG6.out hb67)
   have HB57 := hide (kcall HB56.out hb67)
   have HTB := hide (fun (k : Nat) (x : TargM) (h : T[k]? = some x) => HGT.out.there_back hn4 (i := (iN : Int)) ⟨by omega, by omega⟩ h)
   obtain ⟨qA, qC, rfl, hqs⟩ := hoq.sl
   have hqle := hqs.le
   have hqmx := hqs.max
   generalize P.reachL (depsOf T) words.length [(iN : Int)] = rl at *
   have HQS := hide hqs
   have hrln : rl.length ≠ 0 := fun h => HRNE.out (List.length_eq_zero_iff.1 h)
   have q1 : ((rl.length : Int) == 0) = false := by simp; exact fun e => HRNE.out e
   have q2 : ¬ (rl.length : Int) = 0 := by omega
   have q3 : (rl.length == 0) = false := by simpa using hrln
   clear hoq hb7 hb67 K9 hqs HRNE HB6 HBG6 HB56 hmod hnz
   go_wp2
   clear q1 q2 q3 hrln
   go_loopw [160] (fun iv wr => ∃ k : Nat, k ≤ ts.length ∧ iv = .int .i64 k ∧ Hid (Below W7.heap.size W7 wr)) (fun iv _ => ts.length - (Go.Mine.nI iv).toNat)
   case atStart => exact ⟨0, Nat.zero_le _, rfl, hide (Below.refl _ _)⟩
   case round =>
    obtain ⟨k, hk, rfl, HB⟩ := hrel
    have HB5r := hide (kcall HB57.out HB.out)
    by_cases hlt : k < ts.length
    ·obtain ⟨x, tgb, tgo, hx, _, hA, htb, p0, p1, p2⟩ := targ_at (HTS5.out.bel HB5r.out) hlt
     have hxT := HTG.out k x hx
     have hbo := HGT.out.back_one hn4 hxT
     rw [HRL.out] at hbo
     have K8 : Hid (∀ (W : World) (b : Nat), Below wr.heap.size wr W → Blk W b 3 #[.int .i64 (k : Int)] → Calls Tryz.prog 8 #[.slice rA ts.length rC, .int .i64 words.length, .slice (some ⟨b, 0, none⟩) 1 1] W fun e w' => ∃ v, e = .returned (.tuple #[v, .int .i64 0]) ∧ OwnL ic 1 3 w' W.heap.size v x.deps ∧ Below W.heap.size W w') := hide (fun W b hb hB => by
      have := Pv.back18_any rA (some ⟨b, 0, none⟩) rC 1 (depsOf T) words.length [(k : Int)] W ((HR5.out.bel HB5r.out).bel hb) (one_sl hB)
      rw [HRL.out, hbo.1, hbo.2] at this
      exact this)
     have HTBK := hide (HTB.out k x.m hxT)
     have HXD := hide (HTD5.out x (List.mem_of_getElem? hx))
     cases hA
     clear hx hxT hbo
     go_wp2_with fail
     refine (K8.out _ _ (kalloc (Below.refl _ _) _) (Blk.new _ _ _)).mono ?_
     rintro e w1 ⟨von, rfl, hon, hb1⟩
     have hbr1 := kcall (kalloc (Below.refl wr.heap.size wr) (.cells #[.int .i64 (k : Int)] 3)) hb1
     have p1' := (hbr1.cell (p := ⟨tgb, tgo + k * 3 + 1, none⟩) htb).trans p1
     have htb1 : tgb < w1.heap.size := Nat.lt_of_lt_of_le htb hbr1.size
     obtain ⟨oA, oC, rfl, hos⟩ := hon.sl
     have KS := Pv.sameInts20_any oA x.dA oC x.dC x.deps x.deps w1 hos ((HXD.out.bel HB5r.out).bel hbr1)
     simp only [decide_true] at KS
     replace KS := hide KS
     have hole := hos.le
     have homx := hos.max
     have hxle := HXD.out.le
     have hxmx := HXD.out.max
     have HOS := hide hos
     have HB71 := hide (kcall HB.out hbr1)
     clear hon hb1 hbr1 K8 hos p0 p1 p2 HB5r HB
     go_wp2_with fail
     refine KS.out.mono ?_
     rintro e w2 ⟨rfl, hb2⟩
     have HB72 := hide (kcall HB71.out hb2)
     have KH1 := Pv.has21_any qA qC rl (k : Int) w2 (HQS.out.bel HB72.out)
     have KH2 := hide (Pv.has21_any oA oC x.deps (iN : Int) w2 (HOS.out.bel hb2))
     rw [HTBK.out] at KH1
     replace KH1 := hide KH1
     have hxd : x.m.deps = x.deps := rfl
     rw [hxd] at KH1
     clear hb2 KS HB71 HOS p1' HTBK hxd
     generalize x.deps.contains (iN : Int) = bb at *
     cases bb
     all_goals
      go_wp2_with fail
      refine KH1.out.mono ?_
      rintro e w3 ⟨rfl, hw3⟩
      subst hw3
      go_wp2_with fail
      refine KH2.out.mono ?_
      rintro e w3 ⟨rfl, hw3⟩
      subst hw3
      go_wp2
      go_roundw
      case rel => exact ⟨k + 1, by omega, by go_num, HB72⟩
      case measure => simp [Go.Mine.nI]; omega
    ·obtain rfl : k = ts.length := by omega
     obtain ⟨W8, hW8⟩ : ∃ W8, W8 = wr := ⟨_, rfl⟩
     subst hW8
     have HB8 := hide (kcall HB7.out HB.out)
     have HBG8 := hide (kcall HBG7.out HB.out)
     have HB58 := hide (kcall HB57.out HB.out)
     clear HB HB57 HB7 HBG7 HTB HQS hqle hqmx
     have hsw : words.length ≤ slots.length := by omega
     obtain ⟨i3, hi3, hy0, hy1, hy2⟩ := info_parts Pv.Try_info31
     have HI31 := hide hi3
     clear hi3
     go_wp2
     go_loopw [33, 194] (fun v iv wr => ∃ (k : Nat) (es : List Hd), k ≤ words.length ∧ iv = .int .i64 k ∧ Hid (es.map (fun e => e.2.2) = (slots.take k).map (fun s => [s % 3])) ∧ Hid (Pv.OwnR wr W8.heap.size v es) ∧ Hid (Below W8.heap.size W8 wr)) (fun _ iv _ => words.length - (Go.Mine.nI iv).toNat)
     case atStart => exact ⟨0, [], Nat.zero_le _, rfl, hide rfl, hide ⟨OwnL.nil _ _ _ _ _, by simp⟩, hide (Below.refl _ _)⟩
     case round =>
      obtain ⟨k, es, hk, rfl, HES, HO, HB⟩ := hrel
      have hNw := HB.out.size
      have hel : es.length = k := by
       have := congrArg List.length HES.out
       rw [List.length_map, List.length_map, List.length_take] at this
       omega
      by_cases hlt : k < words.length
      ·obtain ⟨s, sb, so, hsk, hsA, hsbw, s0⟩ := u8_at ((HS.out.bel HB8.out).bel HB.out) (show k < slots.length by omega)
       have hsr := HSB.out s (List.mem_of_getElem? hsk)
       have HN1 := hide (show es.map (fun e => e.2.2) ++ [[s % 3]] = (slots.take (k + 1)).map (fun s => [s % 3]) by rw [HES.out, take_of_get hsk]; simp)
       have hm3 : s.tmod 3 = s % 3 := Int.tmod_eq_emod_of_nonneg hsr.1
       have hm4 : 0 ≤ s % 3 ∧ s % 3 < 3 := by omega
       obtain ⟨r3, hr3⟩ : ∃ r3, r3 = s % 3 := ⟨_, rfl⟩
       rw [← hr3] at hm3 hm4 HN1
       have hmr : s % 3 = r3 := hr3.symm
       obtain ⟨A0, c0, hve, _⟩ := HO.out.own.sl
       generalize hn0 : es.length = n0 at hve hel
       subst hve
       have HN0 := hide hn0
       have HEL := hide hel
       have hsk' : (k : Int) < slots.length := by omega
       have HOWN := hide (show OwnL hc 1 31 wr W8.heap.size (.slice A0 n0 c0) es from HO.out.own)
       cases hsA
       clear hsk hn0 hel hr3
       go_wp2_with (at_builtin; refine wpList_push (f := hc) (y := ((some ⟨wr.heap.size, 0, none⟩, 1, [r3]) : Hd)) (l := es) rfl (.tmp 197) (.tmp 205) 32 rfl Tryz.underlying32 HI31.out hy0 hy1 hy2 rfl (by decide) rfl ((HOWN.out.alloc _).alloc _) rfl (new_row1 _ _ _) rfl rfl ?_ ?_ ?_ ?_ ?_)
       ·simp [Value.oneCell', hc]
       ·have := HEL.out; have := HN0.out; simp only [maxLen]; omega
       ·have := HEL.out; have := HN0.out; omega
       ·first | omega | (simp; omega)
       ·intro v6 w6 hO6 hgr hat
        have hbx := kalloc (Below.refl wr.heap.size wr) (.cells #[.int .i64 r3] 3)
        have hby := kalloc hbx (.cells #[.slice (some ⟨wr.heap.size, 0, none⟩) 1 1] 31)
        have R6 := hide (Pv.OwnR.push (x := (some ⟨wr.heap.size, 0, none⟩, 1, [r3])) (HO.out.bel hby) ((one_own (Blk.new wr _ 3) hNw).alloc _) hO6 hgr)
        have hb6 := hide (Below.grown (kcall HB.out hby) hgr (by simp; omega) (fun g hg => (HOWN.out.blk hg).1))
        clear hO6 hgr hat HO HOWN hbx hby
        go_wp2
        go_roundw
        case rel => exact ⟨k + 1, es ++ [(some ⟨wr.heap.size, 0, none⟩, 1, [r3])], by omega, by go_num, hide (by rw [← HN1.out]; simp), R6, hb6⟩
        case measure => simp [Go.Mine.nI]; omega
      ·obtain rfl : k = words.length := by omega
       obtain ⟨fA, fC, hfe, hfr⟩ := HO.out.rel
       rw [HES.out] at hfe hfr
       have hfe' : fromL slots words.length = (slots.take words.length).map (fun s => [s % 3]) := rfl
       rw [← hfe'] at hfe hfr
       rw [fromL_len hsw] at hfe
       subst hfe
       have HFR := hide hfr
       have hth := HGT.out.then_ hn4 hsw
       have K12 := Pv.then11_any fA rA fC rC (fromL slots words.length) (depsOf T) 3 wr hfr ((HR5.out.bel HB58.out).bel HB.out)
       rw [hth.1, hth.2, HTL.out, HRL.out, fromL_len hsw] at K12
       replace K12 := hide K12
       have HTH := hide (fun (k : Int) (hk : 0 ≤ k ∧ k < 3) => HGT.out.through hn4 hsw hk)
       have HTLN := hide (show (P.thenL (fromL slots words.length) (depsOf T) 3).length = ts.length by rw [hth.2, HTL.out])
       have HFLN := hide (show (fromL slots words.length).length = words.length from fromL_len hsw)
       have HB9 := hide (kcall HB8.out HB.out)
       have HBG9 := hide (kcall HBG8.out HB.out)
       have HB59 := hide (kcall HB58.out HB.out)
       clear hfr hth hfe' HO HES HB HB8 HBG8 HB58 hel
       generalize P.thenL (fromL slots words.length) (depsOf T) 3 = TL at *
       generalize fromL slots words.length = FL at *
       go_wp2_with fail
       refine K12.out.mono ?_
       rintro e W10 ⟨A2, c2, rfl, hr2, hb10⟩
       have HB10 := hide (kcall HB9.out hb10)
       have HBG10 := hide (kcall HBG9.out hb10)
       have HB5A := hide (kcall HB59.out hb10)
       have HR2 := hide hr2
       have HFR10 := hide (HFR.out.bel hb10)
       clear hb10 hr2 K12 HB9 HBG9 HB59 HFR
       go_wp2
       go_loopw [223] (fun iv wr => ∃ k : Nat, k ≤ 3 ∧ iv = .int .i64 k ∧ Hid (Below W10.heap.size W10 wr)) (fun iv _ => 3 - (Go.Mine.nI iv).toNat)
       case atStart => exact ⟨0, by omega, rfl, hide (Below.refl _ _)⟩
       case round =>
        obtain ⟨k, hk, rfl, HB⟩ := hrel
        by_cases hlt : k < 3
        ·have g1 : decide ((k : Int) < 3) = true := decide_eq_true (by omega)
         obtain ⟨t1, t2, t3, t4⟩ := HTH.out (k : Int) ⟨by omega, by omega⟩
         have KA : Hid (∀ (W : World) (b : Nat), Below wr.heap.size wr W → Blk W b 3 #[.int .i64 (k : Int)] → Calls Tryz.prog 9 #[.slice A2 ts.length c2, .int .i64 3, .slice (some ⟨b, 0, none⟩) 1 1] W fun e w' => ∃ v, e = .returned (.tuple #[v, .int .i64 0]) ∧ OwnL ic 1 3 w' W.heap.size v (P.reachL TL 3 [(k : Int)]) ∧ Below W.heap.size W w') := hide (fun W b hb hB => by
          have := Pv.reach16_any A2 (some ⟨b, 0, none⟩) c2 1 TL 3 [(k : Int)] W ((HR2.out.bel HB.out).bel hb) (one_sl hB)
          rw [HTLN.out, t1] at this
          exact this)
         have KB : Hid (∀ (W : World) (b : Nat), Below wr.heap.size wr W → Blk W b 3 #[.int .i64 (k : Int)] → Calls Tryz.prog 9 #[.slice fA words.length fC, .int .i64 3, .slice (some ⟨b, 0, none⟩) 1 1] W fun e w' => ∃ v, e = .returned (.tuple #[v, .int .i64 0]) ∧ OwnL ic 1 3 w' W.heap.size v (P.reachL FL 3 [(k : Int)]) ∧ Below W.heap.size W w') := hide (fun W b hb hB => by
          have := Pv.reach16_any fA (some ⟨b, 0, none⟩) fC 1 FL 3 [(k : Int)] W ((HFR10.out.bel HB.out).bel hb) (one_sl hB)
          rw [HFLN.out, t2] at this
          exact this)
         have KC : Hid (∀ (W : World) (mA : Option Addr) (mC : Nat), Below wr.heap.size wr W → Sl ic 1 W mA mC (P.reachL FL 3 [(k : Int)]) → Calls Tryz.prog 9 #[.slice rA ts.length rC, .int .i64 words.length, .slice mA (P.reachL FL 3 [(k : Int)]).length mC] W fun e w' => ∃ v, e = .returned (.tuple #[v, .int .i64 0]) ∧ OwnL ic 1 3 w' W.heap.size v (P.reachL TL 3 [(k : Int)]) ∧ Below W.heap.size W w') := hide (fun W mA mC hb hS => by
          have := Pv.reach16_any rA mA rC mC (depsOf T) words.length (P.reachL FL 3 [(k : Int)]) W (((HR5.out.bel HB5A.out).bel HB.out).bel hb) hS
          rw [HRL.out, t3, ← t4] at this
          exact this)
         clear t1 t2 t3 t4
         generalize P.reachL TL 3 [(k : Int)] = La at *
         generalize P.reachL FL 3 [(k : Int)] = Lm at *
         go_wp2_with fail
         refine (KA.out _ _ (kalloc (Below.refl _ _) _) (Blk.new _ _ _)).mono ?_
         rintro e w1 ⟨va, rfl, hoa, hb1⟩
         have hbr1 := kcall (kalloc (Below.refl wr.heap.size wr) (.cells #[.int .i64 (k : Int)] 3)) hb1
         obtain ⟨aA, aC, rfl, has⟩ := hoa.sl
         have HAS := hide has
         have HBR1 := hide hbr1
         clear hoa hb1 hbr1 KA has
         go_wp2_with fail
         refine (KB.out _ _ (kalloc HBR1.out _) (Blk.new _ _ _)).mono ?_
         rintro e w2 ⟨vm, rfl, hom, hb2⟩
         have hb12 := kcall (kalloc (Below.refl w1.heap.size w1) (.cells #[.int .i64 (k : Int)] 3)) hb2
         have HBR2 := hide (kcall HBR1.out hb12)
         obtain ⟨mA, mC, rfl, hms⟩ := hom.sl
         have HAS2 := hide (HAS.out.bel hb12)
         have KC2 := hide (KC.out w2 mA mC HBR2.out hms)
         have hmle := hms.le
         have hmmx := hms.max
         clear hom hb2 hb12 KB KC HAS HBR1 hms
         go_wp2_with fail
         refine KC2.out.mono ?_
         rintro e w3 ⟨vc, rfl, hoc, hb3⟩
         obtain ⟨cA, cC, rfl, hcs⟩ := hoc.sl
         have KS := Pv.sameInts20_any aA cA aC cC La La w3 (HAS2.out.bel hb3) hcs
         simp only [decide_true] at KS
         replace KS := hide KS
         have HBR3 := hide (kcall HBR2.out hb3)
         have hale := HAS2.out.le
         have hamx := HAS2.out.max
         have hcle := hcs.le
         have hcmx := hcs.max
         clear hoc hb3 KC2 HAS2 HBR2 hcs
         go_wp2_with fail
         refine KS.out.mono ?_
         rintro e w4 ⟨rfl, hb4⟩
         have HB4' := hide (kcall HB.out (kcall HBR3.out hb4))
         clear hb4 KS HBR3 HB hale hamx hcle hcmx hmle hmmx
         go_wp2
         go_roundw
         case rel => exact ⟨k + 1, by omega, by go_num, HB4'⟩
         case measure => simp [Go.Mine.nI]; omega
        ·obtain rfl : k = 3 := by omega
         obtain ⟨W11, hW11⟩ : ∃ W11, W11 = wr := ⟨_, rfl⟩
         subst hW11
         have HB11 := hide (kcall HB10.out HB.out)
         have HBG11 := hide (kcall HBG10.out HB.out)
         have HB5B := hide (kcall HB5A.out HB.out)
         obtain ⟨i9, hi9, hx0, hx1, hx2⟩ := info_parts Tryz_infoW9
         have HI9 := hide hi9
         have HWC := hide (HW.out.bel HB11.out)
         have hb1a : ∀ o, Below W11.heap.size W11 (W11.alloc o) := fun o => kalloc (Below.refl _ _) o
         clear HB HTH HTLN HFLN HR2 HFR10 HB10 HBG10 HB5A hi9 hk hlt
         go_wp2_with (at_builtin; refine wpList_append rfl (.tmp 264) (.tmp 265) 22 rfl rfl rfl (run_extend (f := sc) (base := W11.heap.size) (l1 := []) (l2 := words) Tryz.underlying22 HI9.out hx0 hx1 hx2 rfl (by decide) (OwnL.fresh W11 (Nat.le_refl _)) (HWC.out.alloc _) (onesW9 _) ?_ ?_ ?_) ?_)
         ·simp only [List.length_nil, maxLen]; omega
         ·simp only [List.length_nil]; omega
         ·first | omega | (simp)
         ·intro v9 w9 hO9 hg9 hat9
          (try simp only [List.nil_append] at hO9)
          have hb9 : Below W11.heap.size W11 w9 := by
           refine Below.grown (hb1a (.cells #[] 9)) hg9 (by simp) (fun g hg => ?_)
           simp [Value.ownBlock] at hg
           omega
          obtain ⟨y, hy⟩ : ∃ y, words[iN]? = some y := ⟨_, List.getElem?_eq_getElem hilt⟩
          obtain ⟨gg, cap, rfl, hg1, hg2, hcl, hcm, hfz, hce, hset⟩ := own_at hO9 hy
          have c9 := hce 0 (.string y) rfl
          rw [Nat.mul_one, Nat.add_zero] at c9
          have z9 := hfz iN
          have ho9 := hset 0 (.string other) other (w9.setCell ⟨gg, iN * 1 + 0, none⟩ (.string other)) rfl (by decide) rfl
          rw [Nat.mul_one, Nat.add_zero] at ho9
          obtain ⟨ch, hch⟩ : ∃ ch, ch = words.set iN other := ⟨_, rfl⟩
          rw [← hch] at ho9
          have hcn : ch.length = words.length := by rw [hch, List.length_set]
          have hcs : ∀ j, j ≠ iN → words[j]? = ch[j]? := fun j hj => by rw [hch, List.getElem?_set_ne (Ne.symm hj)]
          obtain ⟨W12, hW12⟩ : ∃ W12, W12 = w9.setCell ⟨gg, iN, none⟩ (.string other) := ⟨_, rfl⟩
          rw [← hW12] at ho9
          have hb12 : Below W11.heap.size W11 W12 := by rw [hW12]; exact hb9.setCell hg1 _
          obtain ⟨A', c', e', hchs⟩ := ho9.sl
          injection e' with e1 e2 e3
          subst e1 e3
          have HCN := hide hcn
          have HCS := hide hcs
          have HB12 := hide (kcall HB11.out hb12)
          have HBG12 := hide (kcall HBG11.out hb12)
          have HB5C := hide (kcall HB5B.out hb12)
          have HCHS := hide hchs
          have HBG9 := hide (kcall HBG11.out hb9)
          have HNE := hide (show ¬ (w.heap.size = gg) by have := HG0.out.lt; have := HBG11.out.size; omega)
          clear hO9 hg9 hat9 hb9 hy hset hce hfz ho9 hch hcn hcs hb12 e2 HB11 HBG11 HB5B hb1a hchs
          have K5 := few5 g lA l.length lC (some ⟨gg, 0, none⟩) cap ch W12 (HG.out.bel HB12.out) hll hlm HCHS.out
          rw [HCN.out] at K5
          simp only [gramV] at K5
          replace K5 := hide K5
          have hgk := HG0.out.bel (HBG9.out)
          have c0 := hgk.cell (v := (.string g.name)) 0 rfl
          have c1 := hgk.cell (v := (.slice g.cA g.cats.length g.cC)) 1 rfl
          have c2 := hgk.cell (v := (.string g.start)) 2 rfl
          have c3 := hgk.cell (v := (.int .i64 g.startNo)) 3 rfl
          have c4 := hgk.cell (v := (.slice g.eA g.entries.length g.eC)) 4 rfl
          have c5 := hgk.cell (v := (.slice g.rA g.rules.length g.rC)) 5 rfl
          have cl := hgk.lt
          clear hgk
          have hne : ¬ (w.heap.size = gg) := HNE.out
          have hne2 : w.heap.size ≠ gg := hne
          go_wp2_with fail
          rw [← hW12]
          refine K5.out.mono ?_
          rintro e W13 ⟨⟨b5, rfl, hf5⟩, hb13⟩
          have HB13 := hide (kcall HB12.out hb13)
          have HBG13 := hide (kcall HBG12.out hb13)
          have HB5D := hide (kcall HB5C.out hb13)
          have HCHS13 := hide (HCHS.out.bel hb13)
          clear hb13 K5 c0 c1 c2 c3 c4 c5 cl HB12 HBG12 HB5C HCHS hW12 c9 z9 hne hne2 HNE HBG9
          cases b5
          ·go_wp2
           go_ret
           exact ⟨rfl, HB13.out⟩
          clear hf5
          have hgk := HG0.out.bel (HBG13.out)
          have c0 := hgk.cell (v := (.string g.name)) 0 rfl
          have c1 := hgk.cell (v := (.slice g.cA g.cats.length g.cC)) 1 rfl
          have c2 := hgk.cell (v := (.string g.start)) 2 rfl
          have c3 := hgk.cell (v := (.int .i64 g.startNo)) 3 rfl
          have c4 := hgk.cell (v := (.slice g.eA g.entries.length g.eC)) 4 rfl
          have c5 := hgk.cell (v := (.slice g.rA g.rules.length g.rC)) 5 rfl
          have cl := hgk.lt
          clear hgk
          have K6 := translate6 g lA lC l lang (some ⟨gg, 0, none⟩) cap ch at_ known W13 (HG.out.bel HB13.out) HGS.out (HL.out.bel HB13.out) (fun x hx => (HLO.out x hx).bel HB13.out) HCHS13.out (HE.out.bel HB13.out) (by rw [HCN.out]; omega)
          rw [HCN.out] at K6
          simp only [gramV] at K6
          replace K6 := hide K6
          go_wp2_with fail
          refine K6.out.mono ?_
          rintro e W14 ⟨⟨v6, wh', er, rfl, p1, p2, p3, p4, p5⟩, hb14⟩
          have HB14 := hide (kcall HB13.out hb14)
          have HBG14 := hide (kcall HBG13.out hb14)
          have HB5E := hide (kcall HB5D.out hb14)
          have HCHS14 := hide (HCHS13.out.bel hb14)
          have hpre' : preI g lang at_ known l ch = true := by rw [← pre_len (words := words) HCN.out.symm]; exact HPRE.out
          have HPRE' := hide hpre'
          have HP2 := hide p2
          have HP3 := hide p3
          have HP4 := hide p4
          have HP5 := hide p5
          have HZ13 := hide HB13.out.size
          clear hb14 K6 p1 p2 p3 p4 p5 c0 c1 c2 c3 c4 c5 cl HB13 HBG13 HB5D HCHS13 hpre'
          by_cases he : er = 0
          case neg =>
           have hnall : ch.all wordB = false := by
            cases h : ch.all wordB
            ·rfl
            ·exact absurd ((HP4.out HPRE'.out h).1 ((TakenP.of HPRE'.out h).few_items (by rw [HCN.out]; omega) (by omega) HFEW.out)) he
           have h280 := HP2.out HPRE'.out hnall
           have hv := HP3.out he
           subst hv
           subst h280
           clear hnall he
           go_wp2
           go_ret
           exact ⟨rfl, HB14.out⟩
          subst he
          have hall' : ch.all wordB = true := by
           cases h : ch.all wordB
           ·have := HP2.out HPRE'.out h; cases this
           ·rfl
          have HALL' := hide hall'
          have HT' := hide (TakenP.of HPRE'.out hall')
          have HLEN' := hide ((HP4.out HPRE'.out hall').2 rfl)
          obtain ⟨us, huo, hum, hud, huw⟩ := HP5.out rfl
          obtain ⟨uA, uC, rfl, husl⟩ := huo.sl
          have hule := husl.le
          have humx := husl.max
          have HUM := hide hum
          have HUD := hide hud
          have HUW := hide huw
          have HUS := hide husl
          clear hall' huo hum hud huw husl HP2 HP3 HP4 HP5
          have HALL := hide (List.all_eq_true.2 HT.out.words)
          have HLEN := hide (HT.out.few_items hn6 (by omega) HFEW.out)
          have K13 := items_taken g lA lC l lang wA wC words at_ known W14 (HG.out.bel HB14.out) HGS.out (HL.out.bel HB14.out) (fun x hx => (HLO.out x hx).bel HB14.out) (HW.out.bel HB14.out) (HE.out.bel HB14.out) HPRE.out HALL.out HLEN.out
          simp only [gramV] at K13
          replace K13 := hide K13
          have hgk := HG0.out.bel (HBG14.out)
          have c0 := hgk.cell (v := (.string g.name)) 0 rfl
          have c1 := hgk.cell (v := (.slice g.cA g.cats.length g.cC)) 1 rfl
          have c2 := hgk.cell (v := (.string g.start)) 2 rfl
          have c3 := hgk.cell (v := (.int .i64 g.startNo)) 3 rfl
          have c4 := hgk.cell (v := (.slice g.eA g.entries.length g.eC)) 4 rfl
          have c5 := hgk.cell (v := (.slice g.rA g.rules.length g.rC)) 5 rfl
          have cl := hgk.lt
          clear hgk
          go_wp2_with fail
          refine K13.out.mono ?_
          rintro e W15 ⟨aA, aC, ia, rfl, has, ham, hao, hb15⟩
          have HB15 := hide (kcall HB14.out hb15)
          have HBG15 := hide (kcall HBG14.out hb15)
          have HB5F := hide (kcall HB5E.out hb15)
          have HBE5 := hide hb15
          have HAS := hide has
          have HAM := hide ham
          have HAO := hide hao
          have hasle := has.le
          have hasmx := has.max
          clear hb15 K13 c0 c1 c2 c3 c4 c5 cl HB14 HBG14 HB5E has ham hao
          have K13 := items_taken g lA lC l lang (some ⟨gg, 0, none⟩) cap ch at_ known W15 (HG.out.bel HB15.out) HGS.out (HL.out.bel HB15.out) (fun x hx => (HLO.out x hx).bel HB15.out) (HCHS14.out.bel HBE5.out) (HE.out.bel HB15.out) HPRE'.out HALL'.out HLEN'.out
          rw [HCN.out] at K13
          simp only [gramV] at K13
          replace K13 := hide K13
          have hgk := HG0.out.bel (HBG15.out)
          have c0 := hgk.cell (v := (.string g.name)) 0 rfl
          have c1 := hgk.cell (v := (.slice g.cA g.cats.length g.cC)) 1 rfl
          have c2 := hgk.cell (v := (.string g.start)) 2 rfl
          have c3 := hgk.cell (v := (.int .i64 g.startNo)) 3 rfl
          have c4 := hgk.cell (v := (.slice g.eA g.entries.length g.eC)) 4 rfl
          have c5 := hgk.cell (v := (.slice g.rA g.rules.length g.rC)) 5 rfl
          have cl := hgk.lt
          clear hgk
          go_wp2_with fail
          refine K13.out.mono ?_
          rintro e W16 ⟨zA, zC, iz, rfl, hzs, hzm, hzo, hb16⟩
          have HB16 := hide (kcall HB15.out hb16)
          have HBG16 := hide (kcall HBG15.out hb16)
          have HB5G := hide (kcall HB5F.out hb16)
          have HBE6 := hide (kcall HBE5.out hb16)
          have HAS16 := hide (HAS.out.bel hb16)
          have HAO16 := hide (fun x hx => (HAO.out x hx).bel hb16)
          have HZS := hide hzs
          have HZM := hide hzm
          have HZO := hide hzo
          have hzsle := hzs.le
          have hzsmx := hzs.max
          clear hb16 K13 c0 c1 c2 c3 c4 c5 cl HB15 HBG15 HB5F HBE5 hzs hzm hzo HAS HAO
          cases wh
          ·go_wp2
           go_ret
           exact ⟨rfl, HB16.out⟩
          cases wh'
          ·go_wp2
           go_ret
           exact ⟨rfl, HB16.out⟩
          have K14 := hide (alike14 aA zA aC zC ia iz W16 HAS16.out HZS.out)
          go_wp2_with fail
          refine K14.out.mono ?_
          rintro e W17 ⟨⟨b, rfl, hbk⟩, hb17⟩
          have HB17 := hide (kcall HB16.out hb17)
          have HBG17 := hide (kcall HBG16.out hb17)
          have HB5H := hide (kcall HB5G.out hb17)
          have HBE7 := hide (kcall HBE6.out hb17)
          have HAS17 := hide (HAS16.out.bel hb17)
          have HAO17 := hide (fun x hx => (HAO16.out x hx).bel hb17)
          have HZS17 := hide (HZS.out.bel hb17)
          have HZO17 := hide (fun x hx => (HZO.out x hx).bel hb17)
          have HBK := hide hbk
          clear hb17 K14 HB16 HBG16 HB5G HBE6 HAS16 HAO16 HZS HZO hbk
          cases b
          ·go_wp2
           go_ret
           exact ⟨rfl, HB17.out⟩
          have HKEY := hide (show (itemsW g lang at_ known l words).map keyI = (itemsW g lang at_ known l ch).map keyI by
           rw [← HAM.out, ← HZM.out, List.map_map, List.map_map]
           exact HBK.out rfl)
          have K15 := best_taken g lang at_ known l words aA aC ia W17 HT.out (by omega) (HG.out.bel HB17.out) HGS.out (HE.out.bel HB17.out) HAS17.out HAM.out HAO17.out HLEN.out
          rw [← HWH.out] at K15
          simp only [gramV] at K15
          replace K15 := hide K15
          have hgk := HG0.out.bel (HBG17.out)
          have c0 := hgk.cell (v := (.string g.name)) 0 rfl
          have c1 := hgk.cell (v := (.slice g.cA g.cats.length g.cC)) 1 rfl
          have c2 := hgk.cell (v := (.string g.start)) 2 rfl
          have c3 := hgk.cell (v := (.int .i64 g.startNo)) 3 rfl
          have c4 := hgk.cell (v := (.slice g.eA g.entries.length g.eC)) 4 rfl
          have c5 := hgk.cell (v := (.slice g.rA g.rules.length g.rC)) 5 rfl
          have cl := hgk.lt
          clear hgk
          go_wp2_with fail
          refine K15.out.mono ?_
          rintro e W18 ⟨h1, rfl, hfr1, hb18⟩
          simp only [treeV]
          obtain ⟨W19, hW19⟩ : ∃ W19, W19 = W18.alloc (.cells #[.int .i64 h1.rule, .int .i64 h1.item, .int .i64 h1.from_, .int .i64 h1.until_, .slice h1.kA h1.kids.length h1.kC] 52) := ⟨_, rfl⟩
          have hb1819 : Below W18.heap.size W18 W19 := by rw [hW19]; exact kalloc (Below.refl _ _) _
          have hb1719 := kcall hb18 hb1819
          have HT49 : Hid (Blk W19 W18.heap.size 52 #[.int .i64 h1.rule, .int .i64 h1.item, .int .i64 h1.from_, .int .i64 h1.until_, .slice h1.kA h1.kids.length h1.kC]) := hide (by rw [hW19]; exact Blk.new W18 _ _)
          have HBG18 := hide (kcall HBG17.out hb18)
          have HB19 := hide (kcall HB17.out hb1719)
          have HBG19 := hide (kcall HBG17.out hb1719)
          have HB5I := hide (kcall HB5H.out hb1719)
          have HBE8 := hide (kcall HBE7.out hb1719)
          have HFR1 := hide (hfr1.keep (KeepT.bel hb1819))
          have K15 := best_taken g lang at_ known l ch zA zC iz W19 HT'.out (by rw [HCN.out]; omega) (HG.out.bel HB19.out) HGS.out (HE.out.bel HB19.out) (HZS17.out.bel hb1719) HZM.out (fun x hx => (HZO17.out x hx).bel hb1719) HLEN'.out
          rw [← HUW.out, HCN.out] at K15
          simp only [gramV] at K15
          replace K15 := hide K15
          clear hb18 hb1819 hb1719 hfr1 c0 c1 c2 c3 c4 c5 cl HB17 HBG17 HB5H HBE7 HAS17 HAO17 HZS17 HZO17
          have hgk := HG0.out.bel (HBG18.out)
          have c0 := hgk.cell (v := (.string g.name)) 0 rfl
          have c1 := hgk.cell (v := (.slice g.cA g.cats.length g.cC)) 1 rfl
          have c2 := hgk.cell (v := (.string g.start)) 2 rfl
          have c3 := hgk.cell (v := (.int .i64 g.startNo)) 3 rfl
          have c4 := hgk.cell (v := (.slice g.eA g.entries.length g.eC)) 4 rfl
          have c5 := hgk.cell (v := (.slice g.rA g.rules.length g.rC)) 5 rfl
          have cl := hgk.lt
          clear hgk
          go_wp2_with fail
          rw [← hW19]
          refine K15.out.mono ?_
          rintro e W20 ⟨h2, rfl, hfr2, hb20⟩
          simp only [treeV]
          obtain ⟨W21, hW21⟩ : ∃ W21, W21 = W20.alloc (.cells #[.int .i64 h2.rule, .int .i64 h2.item, .int .i64 h2.from_, .int .i64 h2.until_, .slice h2.kA h2.kids.length h2.kC] 52) := ⟨_, rfl⟩
          have hb2021 : Below W20.heap.size W20 W21 := by rw [hW21]; exact kalloc (Below.refl _ _) _
          have hb1921 := kcall hb20 hb2021
          have ht49 := HT49.out.bel hb20
          have v0 := ht49.cell (v := .int .i64 h1.rule) 0 rfl
          have v1 := ht49.cell (v := .int .i64 h1.item) 1 rfl
          have v2 := ht49.cell (v := .int .i64 h1.from_) 2 rfl
          have v3 := ht49.cell (v := .int .i64 h1.until_) 3 rfl
          have v4 := ht49.cell (v := .slice h1.kA h1.kids.length h1.kC) 4 rfl
          have vl := ht49.lt
          have HB21 := hide (kcall HB19.out hb1921)
          have HB5J := hide (kcall HB5I.out hb1921)
          have HBE9 := hide (kcall HBE8.out hb1921)
          obtain ⟨t1, ht1, hr1⟩ := (HFR1.out.keep (KeepT.bel hb20)).yes HWH.out.symm
          obtain ⟨t2, ht2, hr2⟩ := hfr2.yes HUW.out.symm
          have HT1 := hide ht1
          have HT2 := hide ht2
          have K16 := tree16 hr1 hr2 W21 hb2021
          simp only [treeV] at K16
          replace K16 := hide K16
          clear hb20 hb2021 hb1921 ht49 hfr2 hr1 hr2 ht1 ht2 c0 c1 c2 c3 c4 c5 cl K15 HB19 HBG18 HBG19 HB5I HBE8 HT49 HFR1 hW19
          go_wp2_with fail
          rw [← hW21]
          refine K16.out.mono ?_
          rintro e W22 ⟨⟨b, rfl, hbt⟩, hb22⟩
          have HB22 := hide (kcall HB21.out hb22)
          have HB5K := hide (kcall HB5J.out hb22)
          have HBEA := hide (kcall HBE9.out hb22)
          have HBT := hide hbt
          clear hb22 hbt K16 hW21 v0 v1 v2 v3 v4 vl HB21 HB5J HBE9
          cases b
          ·go_wp2
           go_ret
           exact ⟨rfl, HB22.out⟩
          have ht12 := HBT.out rfl
          subst ht12
          have HST := hide (stays (l := l) (lang := lang) (at_ := at_) (known := known) HCN.out.symm HCS.out HKEY.out HWH.out.symm HT1.out HUW.out.symm HT2.out)
          have K18 := hide (without18 tA tC ts (iN : Int) W22 (HTS5.out.bel HB5K.out) (fun x hx => (HTD5.out x hx).bel HB5K.out) (by omega))
          have hul : us.length ≤ 1000000 := by
           have h := (HT'.out.good (by rw [HCN.out]; omega)).len
           rw [← HUM.out, List.length_map] at h
           omega
          go_wp2_with fail
          refine K18.out.mono ?_
          rintro e W23 ⟨v1, l1, rfl, ho1, hl1, hb23⟩
          obtain ⟨xA, xC, rfl, hx1⟩ := ho1.sl
          have HB23 := hide (kcall HB22.out hb23)
          have HB5L := hide (kcall HB5K.out hb23)
          have HBEB := hide (kcall HBEA.out hb23)
          have HX1 := hide hx1
          have HL1 := hide hl1
          have K18 := hide (without18 uA uC us (iN : Int) W23 (HUS.out.bel HBEB.out) (fun x hx => (HUD.out x hx).bel HBEB.out) hul)
          clear ho1 hx1 hl1 hb23 HB22 HB5K HBEA hul
          go_wp2_with fail
          refine K18.out.mono ?_
          rintro e W24 ⟨v2, l2, rfl, ho2, hl2, hb24⟩
          obtain ⟨yA, yC, rfl, hy2⟩ := ho2.sl
          have HB24 := hide (kcall HB23.out hb24)
          have HB5M := hide (kcall HB5L.out hb24)
          have HBEC := hide (kcall HBEB.out hb24)
          have K17 := hide (same17 xA yA xC yC l1 l2 W24 (HX1.out.bel hb24) hy2 (fun x hx => by
           rw [HL1.out] at hx
           exact (HTD5.out x (List.mem_filter.1 hx).1).bel HB5M.out) (fun x hx => by
           rw [hl2] at hx
           exact (HUD.out x (List.mem_filter.1 hx).1).bel HBEC.out) (by
           rw [HL1.out, hl2, filter_m, filter_m, ← HTDF.out, HTM.out, HUM.out]
           exact HST.out))
          clear ho2 hy2 hl2 hb24 K18 HB23 HB5L HBEB
          go_wp2_with fail
          refine K17.out.mono ?_
          rintro e W25 ⟨rfl, hb25⟩
          have HB25 := hide (kcall HB24.out hb25)
          clear hb25 K17
          go_wp2
          go_ret
          exact ⟨rfl, HB25.out⟩
end Go.Proofs.YtkfdafeonhnloaaGreatDoor
