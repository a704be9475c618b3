/-
  text, plainly: the code points of a text; words.
  text.points: the iterator yields the code points of a text; it panics at a byte that belongs to none.
-/
import Derived.Test.YtkfdafeonhnloaaGreatDoorGM1
import Derived.Shelf.Unicode.DecodeSlow
import Derived.Lib.RuneCount
import Derived.Test.YtkfdafeonhnloaaGreatDoorGM2
import Derived.Test.YtkfdafeonhnloaaGreatDoorGM3
import Derived.Test.YtkfdafeonhnloaaGreatDoorGM4
namespace Go.Mine.C
open Go.Lib
def ptsGo : Nat → Str → List Int × Bool
 | 0, _ => ([], true)
 | m + 1, s => if s.size = 0 then ([], true) else if (decodeGo s).1 = 65533 ∧ (decodeGo s).2 < 2 then ([], false) else
   (((decodeGo s).1 : Int) :: (ptsGo m (s.extract (decodeGo s).2 s.size)).1, (ptsGo m (s.extract (decodeGo s).2 s.size)).2)
def pts (s : Str) : List Int × Bool := ptsGo s.size s
def spB (r : Int) : Bool := (r == 32) || (r == 9) || (r == 10) || (r == 13)
def wordB (s : Str) : Bool := (pts s).2 && decide (0 < s.size) && decide (s.size ≤ 64) && !((pts s).1.any spB)
theorem decode_width_le (s : ByteArray) (h : 0 < s.size) : (Utf8.decode s 0).2 ≤ s.size := by
 rw [decode_at]
 unfold decodeN
 simp only [Nat.sub_zero]
 repeat' split
 all_goals first | omega | (dsimp only; omega)
theorem decodeGo_pos {s : ByteArray} (h : 0 < s.size) : 1 ≤ (decodeGo s).2 ∧ (decodeGo s).2 ≤ s.size ∧ (decodeGo s).1 ≤ 2147483647 := by
 unfold decodeGo
 rw [if_neg (by omega)]
 exact ⟨decode_width_pos s 0 h, decode_width_le s h, decode_le s 0⟩
theorem ext_size (s : ByteArray) (n : Nat) : (s.extract n s.size).size = s.size - n := by
 rw [ByteArray.size_extract]; omega
theorem ptsGo_len : ∀ (m : Nat) (s : Str), (ptsGo m s).1.length ≤ m
 | 0, _ => by simp [ptsGo]
 | m + 1, s => by
  unfold ptsGo
  split
  ·simp
  ·split
   ·simp
   ·have := ptsGo_len m (s.extract (decodeGo s).2 s.size)
    simp only [List.length_cons]; omega
theorem pts_len (s : Str) : (pts s).1.length ≤ s.size := ptsGo_len _ _
theorem decode_ascii0 {s : ByteArray} (h : 0 < s.size) (ha : (s[0]'h).toNat < 128) : decodeGo s = ((s[0]'h).toNat, 1) := by
 unfold decodeGo
 rw [if_neg (by omega), decode_ascii s 0 h ha]
theorem pts_ascii : ∀ (m : Nat) (s : Str), (∀ b ∈ s.data.toList, b.toNat < 128) → s.size ≤ m → (ptsGo m s).2 = true ∧ ∀ r ∈ (ptsGo m s).1, ∃ b ∈ s.data.toList, r = (b.toNat : Int)
 | 0, s, _, _ => by simp [ptsGo]
 | m + 1, s, ha, hm => by
  unfold ptsGo
  by_cases h0 : s.size = 0
  ·rw [if_pos h0]; simp
  ·rw [if_neg h0]
   have hpos : 0 < s.size := by omega
   have hmem : s[0]'hpos ∈ s.data.toList := by
    have : (s[0]'hpos) = s.data[0]'(by simpa using hpos) := rfl
    rw [this]; simp
   have hb := ha _ hmem
   have hd := decode_ascii0 hpos hb
   rw [hd]
   have hr : ¬ ((s[0]'hpos).toNat = 65533 ∧ 1 < 2) := by omega
   rw [if_neg hr]
   have hsub : ∀ b ∈ (s.extract 1 s.size).data.toList, b ∈ s.data.toList := fun b hb => by
    rw [ByteArray.data_extract, Array.toList_extract, List.extract_eq_take_drop] at hb
    exact List.mem_of_mem_drop (List.mem_of_mem_take hb)
   obtain ⟨i1, i2⟩ := pts_ascii m (s.extract 1 s.size) (fun b hb => ha b (hsub b hb)) (by rw [ext_size]; omega)
   refine ⟨i1, fun r hr => ?_⟩
   rcases List.mem_cons.1 hr with rfl | hr
   ·exact ⟨_, hmem, rfl⟩
   ·obtain ⟨b, hb, e⟩ := i2 r hr
    exact ⟨b, hsub b hb, e⟩
end Go.Mine.C
namespace Go.Proofs.YtkfdafeonhnloaaGreatDoor
open Go.RowKit Go.Shelf Go.Mine Go.Mine.C
attribute [local go_sem] Oper.semAt_some
theorem tabs_heap {W W' : World} (h : Lib.Utf8Tabs 2 3 W) (hk : ∀ b, (b = 2 ∨ b = 3) → W'.heap[b]? = W.heap[b]?) : Lib.Utf8Tabs 2 3 W' := by
 refine ⟨fun c hc => ?_, fun i hi => ?_⟩
 ·rw [← h.1 c hc]
  simp only [World.cell?, hk 2 (.inl rfl)]
 ·obtain ⟨h1, h2⟩ := h.2 i hi
  rw [← h1, ← h2]
  simp only [World.cell?, hk 3 (.inr rfl), and_self]
def wrongP : List PanicEntry := [{ v := .iface 187 (.agg #[]), recovered := false }]
def ptsEnd (s : ByteArray) : Option (List PanicEntry) := if (pts s).2 = true then none else some wrongP
def ptsY (s : ByteArray) : Nat → Array Value → (Nat → Prop) → World → Prop := fun k x _ _ => ∃ r, (pts s).1[k]? = some r ∧ x = #[.int .i64 r]
def strSz : Option Value → Nat | some (.string s) => s.size | _ => 0
set_option maxRecDepth 100000 in
set_option maxHeartbeats 4000000 in
theorem points142 (s : ByteArray) (q : Nat) (w0 : World) (hT : Lib.Utf8Tabs 2 3 w0) (hq : Blk w0 q 9 #[.string s]) (hqn : q ≠ 2 ∧ q ≠ 3) (hz : 4 ≤ w0.heap.size) :
  IterG Tryz.prog 142 #[.pointer (some ⟨q, 0, none⟩)] (pts s).1.length (ptsY s) (ptsEnd s) (fun b => b = q) (fun b => b = 2 ∨ b = 3) w0 := by
 intro n lp J Jx W hw hR hJ hJx hY h0
 have hTW : Lib.Utf8Tabs 2 3 W := tabs_heap hT fun b hb => (hR b (.inr hb)).2
 have hqW : Blk W q 9 #[.string s] := ⟨Nat.lt_of_lt_of_le hq.lt hw, ((hR q (.inl rfl)).2).trans hq.at_⟩
 have hWz : 4 ≤ W.heap.size := Nat.le_trans hz hw
 have HY := hide @hY
 have HQW := hide hqW
 have HTW := hide hTW
 clear hY hR hq hT hqW hTW hw
 refine callsIn_of_wp Tryz.func142 rfl trivial ?_ rfl
 simp only [Tryz.ntmps142]
 simp only [List.size_toArray, List.length_cons, List.length_nil, Nat.reduceAdd, Nat.reduceSub, Array.replicate_succ, Array.replicate_zero, List.push_toArray, List.append_toArray, List.nil_append, List.cons_append]
 gi_wp2_with fail
 gi_loopw [3] (fun _ wr => ∃ (k m : Nat) (O : Nat → Prop) (t : ByteArray), k ≤ (pts s).1.length ∧ Hid (t.size ≤ m) ∧ Hid ((pts s).1.drop k = (ptsGo m t).1) ∧ Hid ((pts s).2 = (ptsGo m t).2) ∧ Hid (J k O wr) ∧ Hid (∀ b, O b → (b = q ∨ W.heap.size ≤ b) ∧ b < wr.heap.size) ∧ Hid (W.heap.size ≤ wr.heap.size) ∧ Hid (O q) ∧ Hid (Blk wr q 9 #[.string t]) ∧ Hid (Lib.Utf8Tabs 2 3 wr) ∧ Hid (¬ O 2 ∧ ¬ O 3)) (fun _ wr => strSz (wr.cell? ⟨q, 0, none⟩))
 case atStart =>
  exact ⟨0, s.size, _, s, Nat.zero_le _, Nat.le_refl _, rfl, rfl, h0, fun b hb => by subst hb; exact ⟨.inl rfl, HQW.out.lt⟩, Nat.le_refl _, rfl, HQW.out, HTW.out, fun h => hqn.1 h.symm, fun h => hqn.2 h.symm⟩
 case round =>
  obtain ⟨k, m, O, t, hk, HM, HD, HP, HJ, HO, HZ, HOq, HB, HT, HN⟩ := hrel
  obtain ⟨wo, hwo⟩ : ∃ x, x = wr := ⟨_, rfl⟩
  subst hwo
  have c0 := HB.out.cell (v := .string t) 0 rfl
  have l0 := HB.out.lt
  have z0 := HB.out.thaw 0
  by_cases h0' : t.size = 0
  ·have e1 : (ptsGo m t) = ([], true) := by cases m with | zero => rfl | succ m => unfold ptsGo; rw [if_pos h0']
   have hkn : k = (pts s).1.length := by
    have := HD.out
    rw [e1] at this
    have := congrArg List.length this
    simp at this; omega
   have hend : ptsEnd s = none := by unfold ptsEnd; rw [if_pos (by rw [HP.out, e1])]
   have g0 : decide ((0 : Int) < t.size) = false := decide_eq_false (by omega)
   subst hkn
   clear e1 HQW HTW h0
   gi_wp2
   refine bodyPost_end (results_none rfl _ _ _) rfl ?_
   exact ⟨O, HO.out, HZ.out, .inl ⟨by rw [hend]; exact ⟨_, rfl⟩, HJ.out⟩⟩
  ·have hpos : 0 < t.size := by omega
   have g0 : decide ((0 : Int) < t.size) = true := decide_eq_true (by omega)
   obtain ⟨d1, d2, d3⟩ := decodeGo_pos hpos
   obtain ⟨m, rfl⟩ : ∃ m', m = m' + 1 := ⟨m - 1, by have := HM.out; omega⟩
   have K := hide (sh_utf8_DecodeRuneInString t wo HT.out)
   have hm := HM.out
   have hd := HD.out
   have hp := HP.out
   unfold ptsGo at hd hp
   rw [if_neg h0'] at hd hp
   clear HD HP HM
   generalize (Lib.decodeGo t).1 = r at *
   generalize (Lib.decodeGo t).2 = nn at *
   by_cases hw : r = 65533 ∧ nn < 2
   ·rw [if_pos hw] at hd hp
    have hkn : k = (pts s).1.length := by
     have := congrArg List.length hd
     simp at this; omega
    have hend : ptsEnd s = some wrongP := by unfold ptsEnd; rw [if_neg (by rw [hp]; simp)]
    have g1 : ((r : Int) == 65533) = true := by simp; omega
    have g2 : decide ((nn : Int) < 2) = true := decide_eq_true (by omega)
    subst hkn
    clear hd hp hw h0 HQW HTW
    gi_wp2_with fail
    refine (callsIn_wide.2 K.out).mono ?_
    rintro e w1 ⟨rfl, hb⟩
    have HB1 := hide hb
    clear hb K
    gi_wp2_with fail
    have hJ1 := hJ _ _ _ _ _ HJ.out (XStep.of_below (O := O) (O' := O) HB1.out fun b hb => .inl hb)
    have hz1 := HB1.out.size
    exact ⟨rfl, O, fun b hb => ⟨(HO.out b hb).1, Nat.lt_of_lt_of_le (HO.out b hb).2 hz1⟩, Nat.le_trans HZ.out hz1, .inl ⟨by rw [hend]; rfl, hJ1⟩⟩
   ·rw [if_neg hw] at hd hp
    have hlt : k < (pts s).1.length := by
     have := congrArg List.length hd
     simp at this; omega
    have hk0 : (pts s).1[k]? = some (r : Int) := by
     have := congrArg (fun l => l[0]?) hd
     simpa using this
    have hd' : (pts s).1.drop (k + 1) = (ptsGo m (t.extract nn t.size)).1 := by
     have := congrArg List.tail hd
     simpa using this
    have HD := hide hd'
    have HP := hide hp
    have HK0 := hide hk0
    have HM := hide (show (t.extract nn t.size).size ≤ m by rw [ext_size]; omega)
    have HSZ := hide (show (t.extract nn t.size).size < t.size by rw [ext_size]; omega)
    have g4 : (0 : Int) ≤ nn ∧ (nn : Int) ≤ t.size := by omega
    have g5 : (0 : Int) ≤ r := by omega
    have g6 : (r : Int) ≤ 2147483647 := by omega
    have g1 : (((r : Int) == 65533) = false) ∨ (((r : Int) == 65533) = true ∧ decide ((nn : Int) < 2) = false) := by
     by_cases h : r = 65533
     ·exact .inr ⟨by simp; omega, decide_eq_false (by omega)⟩
     ·exact .inl (by simp; omega)
    clear hd hp hw hd' hk0 h0 HQW HTW h0' d1 d2 d3
    rcases g1 with g1 | ⟨g1, g2⟩
    all_goals
     gi_wp2_with fail
     refine (callsIn_wide.2 K.out).mono ?_
     rintro e w1 ⟨rfl, hb⟩
     have HB1 := hide hb
     have B1 := HB.out.bel hb
     have c1 := B1.cell (v := .string t) 0 rfl
     have l1 := B1.lt
     have z1 := B1.thaw 0
     have B2 := hide (B1.set 0 (.string (t.extract nn t.size)) (cs' := #[.string (t.extract nn t.size)]) rfl)
     have hz1 := HB1.out.size
     have HJ1 := hide (hJ _ _ _ _ _ (hJ _ _ _ _ _ HJ.out (XStep.of_below (O := O) (O' := O) HB1.out fun b hb => .inl hb)) (XStep.setCell (O := O) w1 ⟨q, 0, none⟩ (.string (t.extract nn t.size)) HOq.out))
     have HT1 := hide (tabs_heap (W' := w1.setCell ⟨q, 0, none⟩ (.string (t.extract nn t.size))) (Utf8Tabs_below HT.out HB1.out) fun b hb => Below.heap_setCell _ _ _ _ (by rintro rfl; rcases hb with h | h; exact hqn.1 h; exact hqn.2 h))
     have hsc : (w1.setCell ⟨q, 0, none⟩ (.string (t.extract nn t.size))).heap.size = w1.heap.size := by simp [World.setCell]
     have HO1 := hide (show ∀ b, O b → (b = q ∨ W.heap.size ≤ b) ∧ b < (w1.setCell ⟨q, 0, none⟩ (.string (t.extract nn t.size))).heap.size from fun b hb => ⟨(HO.out b hb).1, by rw [hsc]; exact Nat.lt_of_lt_of_le (HO.out b hb).2 hz1⟩)
     have HZ1 := hide (show W.heap.size ≤ (w1.setCell ⟨q, 0, none⟩ (.string (t.extract nn t.size))).heap.size by rw [hsc]; exact Nat.le_trans HZ.out hz1)
     obtain ⟨fn, tmps, assign, body, hyy, hRR⟩ := HY.out k #[.int .i64 r] O _ hlt ⟨r, HK0.out, rfl⟩ HJ1.out HO1.out HZ1.out
     replace hRR := hide hRR
     clear hb B1 K c0 l0 z0 hsc
     gi_wp2_with fail
     refine hRR.out.mono ?_
     rintro e W' ⟨hK, (⟨rfl, hj'⟩ | ⟨rfl, hjx⟩)⟩
     ·have HB' : Hid (Blk W' q 9 #[.string (t.extract nn t.size)]) := hide ⟨Nat.lt_of_lt_of_le B2.out.lt hK.size, (hK.keep q B2.out.lt (.inl HOq.out)).trans B2.out.at_⟩
      have HT' : Hid (Lib.Utf8Tabs 2 3 W') := hide (tabs_heap HT1.out fun b hb => hK.keep b (by have := HZ1.out; rcases hb with h | h <;> omega) (.inr hb))
      have HO' : Hid (∀ b, O b → (b = q ∨ W.heap.size ≤ b) ∧ b < W'.heap.size) := hide fun b hb => ⟨(HO1.out b hb).1, Nat.lt_of_lt_of_le (HO1.out b hb).2 hK.size⟩
      have HZ' := hide (Nat.le_trans HZ1.out hK.size)
      have HJ' := hide hj'
      have hme : strSz (W'.cell? ⟨q, 0, none⟩) = (t.extract nn t.size).size := by rw [HB'.out.cell 0 rfl]; rfl
      have hm0 : strSz (wo.cell? ⟨q, 0, none⟩) = t.size := by rw [HB.out.cell (v := .string t) 0 rfl]; rfl
      have HME := hide hme
      have HM0 := hide hm0
      clear hK hj' hRR hyy c1 l1 z1 hme hm0
      gi_wp2
      go_roundw
      case rel => exact ⟨k + 1, m, O, _, hlt, HM, HD, HP, HJ', HO', HZ', HOq, HB', HT', HN⟩
      case measure => rw [HME.out, HM0.out]; exact HSZ.out
     ·have hKz := hK.size
      gi_wp2
      refine bodyPost_ret (results_none rfl _ _ _) rfl ?_
      exact ⟨O, fun b hb => ⟨(HO1.out b hb).1, Nat.lt_of_lt_of_le (HO1.out b hb).2 hKz⟩, Nat.le_trans HZ1.out hKz, .inr ⟨⟨_, rfl⟩, hjx⟩⟩
end Go.Proofs.YtkfdafeonhnloaaGreatDoor
