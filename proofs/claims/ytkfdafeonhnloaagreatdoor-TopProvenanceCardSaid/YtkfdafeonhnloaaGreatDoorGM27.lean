/-
  How the library's functions for keys and sorting lie in this program: tables of numbers, written by the kit's tool for plain layings.
  set.sorted: a map's keys, in order.
  provenance.below, Check; the reference's Below.
  The reference's Below, Check, Has, SameInts, Same, Few.
-/
import Derived.Shelf.SlIterI.Nil
import Derived.Shelf.SortM.Plain
import Derived.Shelf.SortM.SortNone
import Derived.Ground.GgzProg
import Derived.Ground.SlgmProg
import Derived.Test.YtkfdafeonhnloaaGreatDoorProg
import Derived.Test.YtkfdafeonhnloaaGreatDoorGM2
import Derived.Test.YtkfdafeonhnloaaGreatDoorGM1
import Derived.Test.YtkfdafeonhnloaaGreatDoorGM14
import Derived.Shelf.AbstractIn
import Derived.Test.YtkfdafeonhnloaaGreatDoorRows
import Derived.Shelf.Abstract
import Derived.Shelf.RegionOpen
import Derived.TacticsInMore
import Derived.LoopNIn
import Derived.LoopIn
namespace Go.Proofs.YtkfdafeonhnloaaGreatDoor.Pv
open Go.Proofs.YtkfdafeonhnloaaGreatDoor
open Go.Shelf
def keysA_ren : Go.Shelf.Ren := ⟨fun | 7 => 92 | 10 => 124 | n => n, fun | 23 => 74 | 26 => 3 | 3 => 4 | 28 => 121 | 0 => 0 | 27 => 120 | 33 => 77 | 4 => 4 | n => n, fun | n => n⟩
theorem keysA : Go.Proofs.SlLaysZI.n7 Tryz.prog keysA_ren := {
 mixed := by kernel_rfl
 f7 := ⟨Tryz.f92.name, by decide, Tryz.func92.trans (congrArg some (by kernel_rfl))⟩
 f10 := ⟨Tryz.f124.name, by decide, Tryz.func124.trans (congrArg some (by kernel_rfl))⟩
 t0 := Tryz.underlying0
 a0 := Tryz.isAgg0
 z0 := Tryz.sizeOf0
 v0 := Tryz.zeroValue0
 t4 := Tryz.underlying4
 a4 := Tryz.isAgg4
 z4 := Tryz.sizeOf4
 v4 := Tryz.zeroValue4
 t23 := Tryz.underlying74
 a23 := Tryz.isAgg74
 z23 := Tryz.sizeOf74
 v23 := Tryz.zeroValue74
 t26 := Tryz.underlying3
 a26 := Tryz.isAgg3
 z26 := Tryz.sizeOf3
 v26 := Tryz.zeroValue3
 t27 := Tryz.underlying120
 a27 := Tryz.isAgg120
 z27 := Tryz.sizeOf120
 v27 := Tryz.zeroValue120
 t28 := Tryz.underlying121
 a28 := Tryz.isAgg121
 z28 := Tryz.sizeOf121
 v28 := Tryz.zeroValue121
 t33 := Tryz.underlying77
 a33 := Tryz.isAgg77
 z33 := Tryz.sizeOf77
 v33 := Tryz.zeroValue77 }
def sortedA_ren : Go.Shelf.Ren := ⟨fun | 6 => 91 | 8 => 103 | 9 => 54 | 11 => 141 | 13 => 89 | 12 => 88 | 23 => 122 | 24 => 123 | 14 => 113 | 15 => 114 | 16 => 115 | 17 => 116 | 18 => 117 | 19 => 118 | 20 => 119 | 21 => 120 | 22 => 121 | 25 => 150 | 26 => 151 | 27 => 152 | 28 => 153 | 29 => 154 | 30 => 155 | 31 => 170 | n => n, fun | 26 => 3 | 28 => 121 | 24 => 31 | 0 => 0 | 3 => 3 | 37 => 173 | 48 => 206 | 50 => 208 | 4 => 4 | 40 => 199 | 39 => 198 | 45 => 177 | 5 => 5 | 9 => 9 | 51 => 231 | 55 => 235 | 57 => 248 | 58 => 249 | 33 => 77 | n => n, fun | n => n⟩
theorem sortedA : Go.Proofs.SlLaysZI.n6 Tryz.prog sortedA_ren := {
 mixed := by kernel_rfl
 f6 := ⟨Tryz.f91.name, by decide, Tryz.func91.trans (congrArg some (by kernel_rfl))⟩
 f8 := ⟨Tryz.f103.name, by decide, Tryz.func103.trans (congrArg some (by kernel_rfl))⟩
 f11 := ⟨Tryz.f141.name, by decide, Tryz.func141.trans (congrArg some (by kernel_rfl))⟩
 t0 := Tryz.underlying0
 a0 := Tryz.isAgg0
 z0 := Tryz.sizeOf0
 v0 := Tryz.zeroValue0
 t24 := Tryz.underlying31
 a24 := Tryz.isAgg31
 z24 := Tryz.sizeOf31
 v24 := Tryz.zeroValue31
 t26 := Tryz.underlying3
 a26 := Tryz.isAgg3
 z26 := Tryz.sizeOf3
 v26 := Tryz.zeroValue3
 t28 := Tryz.underlying121
 a28 := Tryz.isAgg121
 z28 := Tryz.sizeOf121
 v28 := Tryz.zeroValue121
 i26 := by kernel_rfl }
def sortA_ren : Go.Shelf.Ren := ⟨fun | 5 => 54 | 8 => 89 | 7 => 88 | 19 => 122 | 20 => 123 | 10 => 113 | 11 => 114 | 12 => 115 | 13 => 116 | 14 => 117 | 15 => 118 | 16 => 119 | 17 => 120 | 18 => 121 | 30 => 150 | 31 => 151 | 32 => 152 | 33 => 153 | 34 => 154 | 35 => 155 | 40 => 170 | n => n, fun | 23 => 31 | 25 => 3 | 3 => 3 | 32 => 173 | 22 => 31 | 0 => 0 | 44 => 206 | 46 => 208 | 4 => 4 | 36 => 199 | 35 => 198 | 41 => 177 | 5 => 5 | 9 => 9 | 53 => 231 | 57 => 235 | 63 => 248 | 64 => 249 | n => n, fun | n => n⟩
theorem sortA : Go.Proofs.SlLaysM.n5 Tryz.prog sortA_ren := {
 mixed := by kernel_rfl
 f5 := ⟨Tryz.f54.name, by decide, Tryz.func54.trans (congrArg some (by kernel_rfl))⟩
 f7 := ⟨Tryz.f88.name, by decide, Tryz.func88.trans (congrArg some (by kernel_rfl))⟩
 f8 := Tryz.func89.trans (congrArg some (by kernel_rfl))
 f10 := ⟨Tryz.f113.name, by decide, Tryz.func113.trans (congrArg some (by kernel_rfl))⟩
 f11 := ⟨Tryz.f114.name, by decide, Tryz.func114.trans (congrArg some (by kernel_rfl))⟩
 f12 := ⟨Tryz.f115.name, by decide, Tryz.func115.trans (congrArg some (by kernel_rfl))⟩
 f13 := ⟨Tryz.f116.name, by decide, Tryz.func116.trans (congrArg some (by kernel_rfl))⟩
 f14 := ⟨Tryz.f117.name, by decide, Tryz.func117.trans (congrArg some (by kernel_rfl))⟩
 f15 := ⟨Tryz.f118.name, by decide, Tryz.func118.trans (congrArg some (by kernel_rfl))⟩
 f16 := ⟨Tryz.f119.name, by decide, Tryz.func119.trans (congrArg some (by kernel_rfl))⟩
 f17 := ⟨Tryz.f120.name, by decide, Tryz.func120.trans (congrArg some (by kernel_rfl))⟩
 f18 := ⟨Tryz.f121.name, by decide, Tryz.func121.trans (congrArg some (by kernel_rfl))⟩
 f19 := Tryz.func122.trans (congrArg some (by kernel_rfl))
 f20 := Tryz.func123.trans (congrArg some (by kernel_rfl))
 f30 := ⟨Tryz.f150.name, by decide, Tryz.func150.trans (congrArg some (by kernel_rfl))⟩
 f31 := Tryz.func151.trans (congrArg some (by kernel_rfl))
 f32 := Tryz.func152.trans (congrArg some (by kernel_rfl))
 f33 := ⟨Tryz.f153.name, by decide, Tryz.func153.trans (congrArg some (by kernel_rfl))⟩
 f34 := ⟨Tryz.f154.name, by decide, Tryz.func154.trans (congrArg some (by kernel_rfl))⟩
 f35 := ⟨Tryz.f155.name, by decide, Tryz.func155.trans (congrArg some (by kernel_rfl))⟩
 f40 := ⟨Tryz.f170.name, by decide, Tryz.func170.trans (congrArg some (by kernel_rfl))⟩
 t0 := Tryz.underlying0
 a0 := Tryz.isAgg0
 z0 := Tryz.sizeOf0
 v0 := Tryz.zeroValue0
 t3 := Tryz.underlying3
 a3 := Tryz.isAgg3
 z3 := Tryz.sizeOf3
 v3 := Tryz.zeroValue3
 t4 := Tryz.underlying4
 a4 := Tryz.isAgg4
 z4 := Tryz.sizeOf4
 v4 := Tryz.zeroValue4
 t5 := Tryz.underlying5
 a5 := Tryz.isAgg5
 z5 := Tryz.sizeOf5
 v5 := Tryz.zeroValue5
 t9 := Tryz.underlying9
 a9 := Tryz.isAgg9
 z9 := Tryz.sizeOf9
 v9 := Tryz.zeroValue9
 t22 := Tryz.underlying31
 a22 := Tryz.isAgg31
 z22 := Tryz.sizeOf31
 v22 := Tryz.zeroValue31
 t23 := Tryz.underlying31
 a23 := Tryz.isAgg31
 z23 := Tryz.sizeOf31
 v23 := Tryz.zeroValue31
 t25 := Tryz.underlying3
 a25 := Tryz.isAgg3
 z25 := Tryz.sizeOf3
 v25 := Tryz.zeroValue3
 t32 := Tryz.underlying173
 a32 := Tryz.isAgg173
 z32 := Tryz.sizeOf173
 v32 := Tryz.zeroValue173
 t35 := Tryz.underlying198
 a35 := Tryz.isAgg198
 z35 := Tryz.sizeOf198
 v35 := Tryz.zeroValue198
 t36 := Tryz.underlying199
 a36 := Tryz.isAgg199
 z36 := Tryz.sizeOf199
 v36 := Tryz.zeroValue199
 t41 := Tryz.underlying177
 a41 := Tryz.isAgg177
 z41 := Tryz.sizeOf177
 v41 := Tryz.zeroValue177
 t44 := Tryz.underlying206
 a44 := Tryz.isAgg206
 z44 := Tryz.sizeOf206
 v44 := Tryz.zeroValue206
 t46 := Tryz.underlying208
 a46 := Tryz.isAgg208
 z46 := Tryz.sizeOf208
 v46 := Tryz.zeroValue208
 t53 := Tryz.underlying231
 a53 := Tryz.isAgg231
 z53 := Tryz.sizeOf231
 v53 := Tryz.zeroValue231
 t57 := Tryz.underlying235
 a57 := Tryz.isAgg235
 z57 := Tryz.sizeOf235
 v57 := Tryz.zeroValue235
 t63 := Tryz.underlying248
 a63 := Tryz.isAgg248
 z63 := Tryz.sizeOf248
 v63 := Tryz.zeroValue248
 t64 := Tryz.underlying249
 a64 := Tryz.isAgg249
 z64 := Tryz.sizeOf249
 v64 := Tryz.zeroValue249 }
end Go.Proofs.YtkfdafeonhnloaaGreatDoor.Pv
namespace Go.Proofs.YtkfdafeonhnloaaGreatDoor.Pv
open Go.Proofs.YtkfdafeonhnloaaGreatDoor
open Go.RowKit Go.Maps Go.Sort Go.Shelf Go.Mine

theorem keys_mem {H : Type} {P : Program} {k : TypeId} {R : Value → Option (DataW H × List MemPlace)} {w : World} {b n : Nat} {D : DataW H} (hown : w.ownsMap P k R b n D) (hk : P.underlying k = some (.int .i64)) :
    (intKeys D).Nodup ∧ ∀ x, x ∈ intKeys D ↔ Maps.has D (.int .i64 x) = true := by
  obtain ⟨es, hD, hpw, _⟩ := hown.entries (int_keyed hk)
  obtain ⟨es', hD', hko⟩ := hown.keysOf
  obtain rfl : es = es' := by rw [hD] at hD'; simpa using hD'
  subst hD
  have hki : ∀ p ∈ es, ∃ x, p.1 = .int .i64 x := fun p hp => by obtain ⟨v, hv⟩ := hko p hp; obtain ⟨x, _, hx, _⟩ := Maps.keyOf_i64 hk hv; exact ⟨x, hx⟩
  refine ⟨?_, fun x => ?_⟩
  · show (es.map fun p => Go.intOf p.1).Nodup
    refine List.pairwise_map.2 (hpw.imp_of_mem fun {p q} hp' hq' hne e => hne ?_)
    obtain ⟨a, ha⟩ := hki p hp'
    obtain ⟨b, hb⟩ := hki q hq'
    rw [ha, hb] at e ⊢
    exact congrArg _ e
  · rw [Maps.has_eq, List.any_eq_true]
    show x ∈ es.map (fun p => Go.intOf p.1) ↔ _
    rw [List.mem_map]
    constructor
    · rintro ⟨p, hp', rfl⟩
      obtain ⟨a, ha⟩ := hki p hp'
      exact ⟨p, hp', by rw [ha]; simp [Lit.sameKey, Go.intOf]⟩
    · rintro ⟨p, hp', hs⟩
      obtain ⟨a, ha⟩ := hki p hp'
      rw [ha] at hs
      exact ⟨p, hp', by rw [ha]; simpa [Lit.sameKey, Go.intOf] using hs⟩
theorem sorted_lt {ss : List Int} (h : ss.Nodup) : (ss.mergeSort (fun x y => decide (x ≤ y))).Pairwise (· < ·) := by
  have tr : ∀ a b c : Int, decide (a ≤ b) = true → decide (b ≤ c) = true → decide (a ≤ c) = true := fun a b c h1 h2 => by simp only [decide_eq_true_eq] at *; exact Int.le_trans h1 h2
  have to : ∀ a b : Int, (decide (a ≤ b) || decide (b ≤ a)) = true := fun a b => by simp only [Bool.or_eq_true, decide_eq_true_eq]; exact Int.le_total a b
  have h1 := List.pairwise_mergeSort (le := fun x y : Int => decide (x ≤ y)) tr to ss
  have h2 : (ss.mergeSort (fun x y => decide (x ≤ y))).Nodup := (List.mergeSort_perm ss _).nodup_iff.2 h
  refine (h1.and h2).imp fun {a b} hab => ?_
  have := hab.1
  have h3 := hab.2
  simp only [decide_eq_true_eq] at this
  omega
theorem sortsA (m : Nat) : AnyZI.SortsIn Tryz.prog sortedA_ren Fence.wide m :=
  ⟨fun blk off cap ss W hH hblk hsz => callsIn_wide.2 (AnyM.slices_Sort_int sortA blk off cap ss W hH hblk hsz),
   fun p cap W => callsIn_wide.2 (AnyM.slices_Sort_int_none sortA p cap W)⟩

set_option maxHeartbeats 1000000 in
theorem keys32_own {H : Type} (b nn : Nat) (D0 : DataW H) (R : Value → Option (DataW H × List MemPlace)) (w : World) (hown : w.ownsMap Tryz.prog 3 R b nn D0) (hmax : Maps.size D0 ≤ maxLen) (hbytes : Maps.size D0 * 8 ≤ 140737488355328) :
    Calls Tryz.prog 59 #[.map (some b)] w fun e w' => ∃ (v : Value) (ss : List Int), e = .returned v ∧ ss.Perm (intKeys D0) ∧
      w'.ownsRow w.heap.size 3 1 v ss.length ((ss.mergeSort (fun x y => decide (x ≤ y))).map encZ) ∧ Below w.heap.size w w' := by
  refine (callsIn_wide (n := 6)).1 ?_
  have hbl := hown.lt
  have hseq : SeqGives Fence.wide 2 Tryz.prog 124 #[.pointer (some ⟨w.heap.size, 0, none⟩)] encZ (fun ss => ss.Perm (intKeys D0)) (Maps.size D0) (w.alloc (.cells #[.map (some b)] 74)) :=
    AnyZI.keys_gives (ρ := keysA_ren) { keysA with } Fence.wide _ trivial rfl (by omega) w.heap.size b nn D0 _ (by simp) (by simp) (by
      obtain ⟨es, clock, hb, Ft, hs, hD⟩ := hown
      exact ⟨es, clock, (Below.heap_alloc _ _ b hbl).trans hb, Ft, hs, hD⟩)
  have cK : ∀ mb W, CallsIn Fence.wide 5 Tryz.prog 92 #[.map mb] W fun e w' => e = .returned (.func (.func 124) #[] #[.pointer (some ⟨W.heap.size, 0, none⟩)]) ∧ w' = W.alloc (.cells #[.map mb] 74) := fun mb W => AnyZI.keys_in keysA Fence.wide 5 trivial rfl mb W
  have cS := AnyZI.sorted_in sortedA Fence.wide 5 trivial trivial trivial trivial rfl (by omega) (sortsA _) (enters_of Tryz.func54 (by kernel_rfl) rfl) 124 #[.pointer (some ⟨w.heap.size, 0, none⟩)] trivial (enters_of Tryz.func124 (by kernel_rfl) rfl) _ _ hmax hbytes _ hseq
  change CallsIn _ _ Tryz.prog 91 _ _ _ at cS
  have hfK : Fence.wide.fn 92 := trivial
  have hfS : Fence.wide.fn 91 := trivial
  refine callsIn_of_wp Tryz.func59 rfl trivial ?_ rfl
  simp only [Tryz.ntmps59, List.size_toArray, List.length_cons, List.length_nil, Nat.reduceAdd, Nat.reduceSub, Array.replicate_succ, Array.replicate_zero, List.push_toArray, List.append_toArray, List.nil_append, List.cons_append]
  gi_wp2_with (first
    | (gi_at_call 92; refine (cK _ _).mono ?_; rintro e w' ⟨rfl, rfl⟩)
    | (gi_at_call 91; refine cS.mono ?_; rintro e w' ⟨v, ss, rfl, hS, hrow, hnil, hb⟩))
  go_ret
  exact ⟨v, ss, rfl, hS, ownsRow_base_a hrow (by simp), ((Below.refl _ w).alloc (Nat.le_refl _) _).trans (hb.mono (by simp))⟩
theorem sorted32_any (b n : Nat) (m : Int → Option Value) (w : World) (h : MapI Tryz.prog 3 w b n m) (hn : n ≤ 1000000000) :
    Calls Tryz.prog 59 #[.map (some b)] w fun e w' => ∃ (v : Value) (l : List Int), e = .returned v ∧ l.Pairwise (· < ·) ∧ (∀ k, k ∈ l ↔ (m k).isSome = true) ∧ OwnL ic 1 3 w' w.heap.size v l ∧ Below w.heap.size w w' := by
  obtain ⟨D, hown, hm⟩ := h
  have hs := hown.size_le
  obtain ⟨k1, k2⟩ := keys_mem hown Tryz.underlying3
  refine (keys32_own b n D anyElem w hown (by unfold maxLen; omega) (by omega)).mono ?_
  rintro e w' ⟨v, ss, rfl, hp, hrow, hb⟩
  refine ⟨v, _, rfl, sorted_lt (hp.nodup_iff.2 k1), fun k => ?_, ⟨?_, fun _ _ => rfl⟩, hb⟩
  · rw [(List.mergeSort_perm ss _).mem_iff, hp.mem_iff, k2, ← (hm k).1]; rfl
  · rw [List.length_mergeSort, show (ss.mergeSort (fun x y => decide (x ≤ y))).flatMap ic = (ss.mergeSort (fun x y => decide (x ≤ y))).map encZ by rw [List.map_eq_flatMap]; rfl]
    exact hrow
end Go.Proofs.YtkfdafeonhnloaaGreatDoor.Pv
namespace Go.Proofs.YtkfdafeonhnloaaGreatDoor.Pv
open Go.Proofs.YtkfdafeonhnloaaGreatDoor
open Go.RowKit Go.Shelf Go.Mine

set_option maxHeartbeats 1000000 in
theorem below27_any (A : Option Addr) (c : Nat) (l : List Int) (m : Int) (w : World) (hS : Sl ic 1 w A c l) :
  Calls Tryz.prog 20 #[.slice A l.length c, .int .i64 m] w fun e w' => e = .returned (.bool (P.below l m)) ∧ w = w' := by
 have hlc := hS.le
 have hc := hS.max
 go_enter Tryz.func20, Tryz.ntmps20
 go_wp2
 go_loop [5, 10] (fun z i => ∃ (k : Nat) (last : Int), k ≤ l.length ∧ i = .int .i64 k ∧ z = .int .i64 last ∧ P.below l m = P.belowGo m last (l.drop k)) (fun _ i => l.length - (nI i).toNat)
 case atStart => exact ⟨0, -1, Nat.zero_le _, rfl, rfl, rfl⟩
 case round =>
  obtain ⟨k, last, hk, rfl, rfl, hq⟩ := hrel
  by_cases hlt : k < l.length
  ·obtain ⟨x, b, off, hx, hdr, rfl, hbw, c1⟩ := Sl.ic_at hS hlt
   rw [hdr, P.belowGo] at hq
   clear hdr hx
   cases g1 : decide (x ≤ last)
   ·have g1' : decide (last < x) = true := by simp at g1 ⊢; omega
    cases g2 : decide (m ≤ x)
    ·have g2' : decide (x < m) = true := by simp at g2 ⊢; omega
     rw [g1', g2', Bool.true_and, Bool.true_and] at hq
     have H := hide hq
     clear hq g1' g2'
     go_wp2
     go_round
     case rel => exact ⟨k + 1, x, by omega, by go_num, rfl, H.out⟩
     case measure => simp [nI]; omega
    ·have g2' : decide (x < m) = false := by simp at g2 ⊢; omega
     rw [g1', g2', Bool.and_false, Bool.false_and] at hq
     have H := hide hq
     clear hq g1' g2'
     go_wp2
     go_ret
     exact ⟨ret_bool H.out.symm, rfl⟩
   ·have g1' : decide (last < x) = false := by simp at g1 ⊢; omega
    rw [g1', Bool.false_and, Bool.false_and] at hq
    have H := hide hq
    clear hq g1'
    go_wp2
    go_ret
    exact ⟨ret_bool H.out.symm, rfl⟩
  ·rw [List.drop_of_length_le (by omega)] at hq
   have H := hide hq
   clear hq
   go_wp2
   go_ret
   exact ⟨ret_bool H.out.symm, rfl⟩
theorem wrong26_any (A : Option Addr) (c : Nat) (l : List Int) (n : Int) (p : Nat) (w : World) (hS : Sl ic 1 w A c l) (hp : Blk w p 3 #[.int .i64 n]) :
  Calls Tryz.prog 19 #[.slice A l.length c, .pointer (some ⟨p, 0, none⟩)] w fun e w' => e = .returned (.bool (!P.below l n)) ∧ w = w' := by
 have y0 := hp.cell (v := .int .i64 n) 0 rfl
 have z0 := hp.lt
 have K := hide (below27_any A c l n w hS)
 generalize P.below l n = r at K
 clear hp
 go_enter Tryz.func19, Tryz.ntmps19
 go_wp2_with fail
 refine (K.out).mono ?_
 rintro e w' ⟨rfl, rfl⟩
 go_wp2
 go_ret
 exact ⟨rfl, rfl⟩
set_option maxHeartbeats 1000000 in
theorem index34_any (A : Option Addr) (c : Nat) (ls : List (List Int)) (n : Int) (p : Nat) (w : World) (hR : Rel w A c ls) (hp : Blk w p 3 #[.int .i64 n]) :
  Calls Tryz.prog 49 #[.slice A ls.length c, .func (.func 19) #[] #[.pointer (some ⟨p, 0, none⟩)]] w fun e w' => (∃ i : Int, e = .returned (.int .i64 i) ∧ decide (0 ≤ i) = ls.any (fun l => !P.below l n)) ∧ w = w' := by
 have hlc := hR.le
 have hc := hR.max
 have KW := hide (fun A c l hS => wrong26_any A c l n p w hS hp)
 clear hp
 go_enter Tryz.func49, Tryz.ntmps49
 go_wp2
 go_loop [8] (fun i => ∃ k : Nat, k ≤ ls.length ∧ i = .int .i64 k ∧ ls.any (fun l => !P.below l n) = (ls.drop k).any (fun l => !P.below l n)) (fun i => ls.length - (nI i).toNat)
 case atStart => exact ⟨0, Nat.zero_le _, rfl, rfl⟩
 case round =>
  obtain ⟨k, hk, rfl, hq⟩ := hrel
  by_cases hlt : k < ls.length
  ·obtain ⟨l, b, off, B, d, hx, hdr, rfl, hbw, c1, hS⟩ := hR.at_ hlt
   rw [hdr, List.any_cons] at hq
   have K := hide (KW.out B d l hS)
   have h1 := hS.le
   have h2 := hS.max
   generalize P.below l n = r at K hq
   clear hdr hx hS
   cases r
   ·rw [Bool.not_false, Bool.true_or] at hq
    have H := hide hq
    clear hq
    go_wp2_with fail
    refine (K.out).mono ?_
    rintro e w' ⟨rfl, rfl⟩
    go_wp2
    go_ret
    exact ⟨⟨_, rfl, by rw [H.out]; simp⟩, rfl⟩
   ·rw [Bool.not_true, Bool.false_or] at hq
    have H := hide hq
    clear hq
    go_wp2_with fail
    refine (K.out).mono ?_
    rintro e w' ⟨rfl, rfl⟩
    go_wp2
    go_round
    case rel => exact ⟨k + 1, by omega, by go_num, H.out⟩
    case measure => simp [nI]; omega
  ·rw [List.drop_of_length_le (by omega)] at hq
   have H := hide hq
   clear hq
   go_wp2
   go_ret
   exact ⟨⟨_, rfl, by rw [H.out]; rfl⟩, rfl⟩
theorem contains28_any (A : Option Addr) (c : Nat) (ls : List (List Int)) (n : Int) (p : Nat) (w : World) (hR : Rel w A c ls) (hp : Blk w p 3 #[.int .i64 n]) :
  Calls Tryz.prog 21 #[.slice A ls.length c, .func (.func 19) #[] #[.pointer (some ⟨p, 0, none⟩)]] w fun e w' => e = .returned (.bool (ls.any (fun l => !P.below l n))) ∧ w = w' := by
 have K := hide (index34_any A c ls n p w hR hp)
 generalize ls.any (fun l => !P.below l n) = r at K
 clear hp hR
 go_enter Tryz.func21, Tryz.ntmps21
 go_wp2_with fail
 refine (K.out).mono ?_
 rintro e w' ⟨⟨i, rfl, hi⟩, rfl⟩
 go_wp2
 go_ret
 exact ⟨ret_bool (by first | rfl | exact hi), rfl⟩
theorem any_not {r : List (List Int)} {n : Int} : r.any (fun l => !P.below l n) = !r.all (fun l => P.below l n) := by
 rw [List.all_eq_not_any_not, Bool.not_not]
set_option maxHeartbeats 1000000 in
theorem check13_any (A : Option Addr) (c : Nat) (r : List (List Int)) (n : Int) (w : World) (hR : Rel w A c r) :
  Calls Tryz.prog 4 #[.slice A r.length c, .int .i64 n] w fun e w' => e = .returned (.int .i64 (P.chk r n)) ∧ Below w.heap.size w w' := by
 have hlc := hR.le
 have hc := hR.max
 by_cases h4 : 4096 < r.length
 ·have E := hide (show P.chk r n = 2 by unfold P.chk; rw [if_pos h4])
  have g4 : decide ((4096 : Int) < r.length) = true := by simp; omega
  go_enter Tryz.func4, Tryz.ntmps4
  go_wp2
  go_ret
  exact ⟨ret_int E.out.symm, kalloc (Below.refl _ _) _⟩
 ·have g4 : decide ((4096 : Int) < r.length) = false := by simp; omega
  by_cases hn : n < 0 ∨ 4096 < n
  ·have E := hide (show P.chk r n = 310 by unfold P.chk; rw [if_neg h4, if_pos hn])
   rcases Classical.em (n < 0) with h1 | h1
   ·go_enter Tryz.func4, Tryz.ntmps4
    go_wp2
    go_ret
    exact ⟨ret_int E.out.symm, kalloc (Below.refl _ _) _⟩
   ·have h2 : 4096 < n := by omega
    clear hn
    go_enter Tryz.func4, Tryz.ntmps4
    go_wp2
    go_ret
    exact ⟨ret_int E.out.symm, kalloc (Below.refl _ _) _⟩
  ·have h1 : ¬ n < 0 := by omega
   have h2 : ¬ 4096 < n := by omega
   have K := hide (contains28_any A c r n w.heap.size _ (hR.alloc (.cells #[.int .i64 n] 3)) (Blk.new w _ 3))
   have E := hide (show P.chk r n = if r.any (fun l => !P.below l n) = true then 310 else 0 by
    unfold P.chk; rw [if_neg h4, if_neg hn, any_not]; cases r.all (fun l => P.below l n) <;> rfl)
   clear hn
   generalize r.any (fun l => !P.below l n) = v at K E
   cases v
   all_goals
    go_enter Tryz.func4, Tryz.ntmps4
    go_wp2_with fail
    refine (K.out).mono ?_
    rintro e w' ⟨rfl, rfl⟩
    go_wp2
    go_ret
    exact ⟨ret_int E.out.symm, kalloc (Below.refl _ _) _⟩

set_option maxHeartbeats 1000000 in
theorem has21_any (A : Option Addr) (c : Nat) (l : List Int) (n : Int) (w : World) (hS : Sl ic 1 w A c l) :
  Calls Tryz.prog 11 #[.slice A l.length c, .int .i64 n] w fun e w' => e = .returned (.bool (l.contains n)) ∧ w = w' := by
 have hlc := hS.le
 have hc := hS.max
 obtain ⟨r, hr⟩ : ∃ r, l.contains n = r := ⟨_, rfl⟩
 rw [hr]
 go_enter Tryz.func11, Tryz.ntmps11
 go_wp2
 go_loop [5] (fun i => ∃ k : Nat, k ≤ l.length ∧ i = .int .i64 k ∧ (l.drop k).contains n = r) (fun i => l.length - (nI i).toNat)
 case atStart => exact ⟨0, Nat.zero_le _, rfl, hr⟩
 case round =>
  obtain ⟨k, hk, rfl, hq⟩ := hrel
  by_cases hlt : k < l.length
  ·obtain ⟨x, b, off, hx, hdr, rfl, hbw, c1⟩ := Sl.ic_at hS hlt
   rw [hdr, List.contains_cons] at hq
   clear hdr hx
   by_cases hxn : x = n
   ·have H := hide (show true = r by rw [← hq]; simp [hxn])
    have g1 : (x == n) = true := by simp [hxn]
    clear hq hr
    go_wp2
    go_ret
    exact ⟨ret_bool H.out, rfl⟩
   ·have H := hide (show (l.drop (k + 1)).contains n = r by rw [← hq]; simp [Ne.symm hxn])
    have g1 : (x == n) = false := by simp [hxn]
    clear hq hr
    go_wp2
    go_round
    case rel => exact ⟨k + 1, by omega, by go_num, H.out⟩
    case measure => simp [nI]; omega
  ·rw [List.drop_of_length_le (by omega)] at hq
   have H := hide (show false = r by rw [← hq]; rfl)
   clear hq hr
   go_wp2
   go_ret
   exact ⟨ret_bool H.out, rfl⟩
set_option maxHeartbeats 1000000 in
theorem sameInts20_any (A B : Option Addr) (c d : Nat) (la lb : List Int) (w : World) (hA : Sl ic 1 w A c la) (hB : Sl ic 1 w B d lb) :
  Calls Tryz.prog 10 #[.slice A la.length c, .slice B lb.length d] w fun e w' => e = .returned (.bool (decide (la = lb))) ∧ Below w.heap.size w w' := by
 have a1 := hA.le
 have a2 := hA.max
 have b1 := hB.le
 have b2 := hB.max
 by_cases hl : la.length = lb.length
 ·have g1 : ((la.length : Int) != (lb.length : Int)) = false := by simp [hl]
  have HL := hide hl
  clear hl
  go_enter Tryz.func10, Tryz.ntmps10
  go_wp2
  go_loopw [5] (fun i wr => ∃ (k : Nat), k ≤ la.length ∧ i = .int .i64 k ∧ la.take k = lb.take k ∧ Below w.heap.size w wr) (fun i _ => la.length - (nI i).toNat)
  case atStart => exact ⟨0, Nat.zero_le _, rfl, rfl, Below.refl _ _⟩
  case round =>
   obtain ⟨k, hk, rfl, ht, hb⟩ := hrel
   by_cases hlt : k < la.length
   ·obtain ⟨x, ba, oa, hx, _, rfl, _, p1⟩ := Sl.ic_at (hA.bel hb) hlt
    obtain ⟨y, bb, ob, hy, _, rfl, _, q1⟩ := Sl.ic_at (hB.bel hb) (show k < lb.length by rw [← HL.out]; exact hlt)
    have hkb : (k : Int) < lb.length := by have := HL.out; omega
    have HT := hide ht
    have HX := hide hx
    have HY := hide hy
    clear ht hx hy hA hB
    by_cases hxy : x = y
    ·subst hxy
     go_wp2_with fail
     refine wp_still_all (by kernel_rfl) (by kernel_rfl) ?_
     repeat ((with_reducible refine wpStill_step (fun K hK => ?_)); go_simp; (try go_bits); (with_reducible refine hK _ ?_); clear hK K)
     (with_reducible refine wpStill_nil ?_)
     go_wp2
     go_roundw
     case rel => exact ⟨k + 1, by omega, by go_num, by rw [take_of_get HX.out, take_of_get HY.out, HT.out], hb.drew⟩
     case measure => simp [nI]; omega
    ·have hne : la ≠ lb := by
      intro e; subst e
      have := HX.out.symm.trans HY.out
      exact hxy (by simpa using this)
     have HN := hide hne
     clear hne
     go_wp2_with fail
     refine wp_still_all (by kernel_rfl) (by kernel_rfl) ?_
     repeat ((with_reducible refine wpStill_step (fun K hK => ?_)); go_simp; (try go_bits); (with_reducible refine hK _ ?_); clear hK K)
     (with_reducible refine wpStill_nil ?_)
     go_wp2
     go_ret
     exact ⟨ret_bool (by simp [HN.out]), hb.drew⟩
   ·have HT := hide ht
    clear ht
    go_wp2
    go_ret
    refine ⟨ret_bool ?_, hb⟩
    have h := HT.out
    rw [List.take_of_length_le (by omega), List.take_of_length_le (by have := HL.out; omega)] at h
    simp [h]
 ·have g1 : ((la.length : Int) != (lb.length : Int)) = true := by rw [bne_iff_ne]; omega
  go_enter Tryz.func10, Tryz.ntmps10
  go_wp2
  go_ret
  exact ⟨ret_bool (by simp; intro e; exact hl (by rw [e])), Below.refl _ _⟩
end Go.Proofs.YtkfdafeonhnloaaGreatDoor.Pv
