/-
  slices.Clone at entries, rules and parts.
  slices.Equal at parts; EqualFunc at entries and rules, as types.Check calls them.
  slices.EqualFunc at entries and rules, with the functions that types.Check gives it.
-/
import Derived.Test.YtkfdafeonhnloaaGreatDoorGM4
import Derived.Test.YtkfdafeonhnloaaGreatDoorGM2
import Derived.Lib.SliceRun
import Derived.Test.YtkfdafeonhnloaaGreatDoorGM10
import Derived.Laws.StructEq
namespace Go.Proofs.YtkfdafeonhnloaaGreatDoor
open Go.RowKit Go.Shelf Go.Mine Go.Mine.C
attribute [local go_sem] Oper.semAt_some
theorem Tryz_infoC107 : (Tryz.prog.info? 107).map (fun i => (i.zero, i.size, i.bytes)) = some (some (.agg #[.string ByteArray.empty, .string ByteArray.empty, .int .i64 0, .slice none 0 0, .int .i64 0]), 5, 72) := by kernel_rfl
theorem one96 (x : EntH) : ∀ u ∈ entC x, u.oneCell' = true := by
 intro u hu
 simp only [entC, List.mem_cons, List.not_mem_nil, or_false] at hu
 rcases hu with rfl | rfl | rfl | rfl | rfl <;> rfl
theorem runExt96 {P : Program} {w : World} {t ty e : TypeId} {base : Nat} {i : TypeInfo} {z : Value} {bytes : Nat} (ht : P.underlying t = some (.slice e)) (hi : P.info? e = some i) (hz : i.zero = some z)
  (hsize : i.size = 5) (hby : i.bytes = bytes) (hzs : z.cells.size = 5) {v : Value} {l1 l2 : List EntH} (hown : OwnL entC 5 e w base v l1) {A : Option Addr} {c n : Nat} (hn : l2.length = n) (h2 : Sl entC 5 w A c l2)
  (h63 : l1.length + n ≤ maxLen) (hbytes : (l1.length + n) * bytes ≤ 140737488355328) (hbase : base ≤ w.heap.size) :
  ∃ v' w', (Builtin.append_ #[t, t] ty #[v, .slice A n c]).run P w = .ok v' w' ∧ OwnL entC 5 e w' base v' (l1 ++ l2) ∧ w.grownBy w' v.ownBlock ∧ (∀ g, v'.ownBlock = some g → v.ownBlock = some g ∨ w.heap.size ≤ g) := by
 subst hn
 exact run_extend ht hi hz hsize hby hzs (by decide) hown h2 (fun x _ => one96 x) h63 hbytes hbase
set_option maxHeartbeats 1000000 in
theorem clone96 (A : Option Addr) (c : Nat) (l : List EntH) (w : World) (hS : Sl entC 5 w A c l) (hl : l.length ≤ 1000000) :
  Calls Tryz.prog 96 #[.slice A l.length c] w fun e w' => ∃ v, e = .returned v ∧ OwnL entC 5 107 w' w.heap.size v l ∧ Below w.heap.size w w' := by
 have hlc := hS.le
 have hc := hS.max
 obtain ⟨i0, hi, hz0, hz1, hz2⟩ := info_parts Tryz_infoC107
 have HI := hide hi
 clear hi
 have qe : ∀ (w : World) (a : Option Addr) (n c n' c' : Nat), (binOp .eql 23 (.slice a n c) (.slice none n' c')).run Tryz.prog w = .ok (.bool a.isNone) w := fun w a n c n' c' => Lib.run_eql_slice_nil w _ _ a n c n' c' Tryz.underlying23
 rcases A with _ | ad
 ·have hn : l = [] := by
   rcases Classical.em (l = []) with h | h
   ·exact h
   ·obtain ⟨b, off, hh, _⟩ := hS.cells h; cases hh
  subst hn
  go_enter Tryz.func96, Tryz.ntmps96
  go_wp2
  go_ret
  exact ⟨_, rfl, OwnL.nil _ _ _ _ _, Below.refl _ _⟩
 ·have HS := hide (hS.alloc (.cells #[] 107))
  clear hS
  go_enter Tryz.func96, Tryz.ntmps96
  go_wp2_with (at_builtin; refine wpList_append rfl (.tmp 5) (.tmp 6) 23 rfl rfl rfl (runExt96 (base := w.heap.size) (l1 := []) (l2 := l) Tryz.underlying23 HI.out hz0 hz1 hz2 rfl (OwnL.fresh w (Nat.le_refl _)) rfl HS.out ?_ ?_ ?_) ?_)
  ·simp only [List.length_nil, maxLen]; omega
  ·simp only [List.length_nil]; omega
  ·first | exact Nat.le_refl _ | simp
  ·intro v' w' hO hg _
   have HO := hide hO
   have HB := hide (Below.grown (kalloc (Below.refl w.heap.size w) (.cells #[] 107)) hg (by simp) (fun k hk => by simp [Value.ownBlock] at hk; omega))
   clear hO hg
   go_wp2
   go_ret
   exact ⟨_, rfl, by simpa using HO.out, HB.out⟩
theorem Tryz_infoC111 : (Tryz.prog.info? 111).map (fun i => (i.zero, i.size, i.bytes)) = some (some (.agg #[.string ByteArray.empty, .int .i64 0, .slice none 0 0, .slice none 0 0, .int .i64 0]), 5, 80) := by kernel_rfl
theorem one97 (x : RuleH) : ∀ u ∈ ruleC x, u.oneCell' = true := by
 intro u hu
 simp only [ruleC, List.mem_cons, List.not_mem_nil, or_false] at hu
 rcases hu with rfl | rfl | rfl | rfl | rfl <;> rfl
theorem runExt97 {P : Program} {w : World} {t ty e : TypeId} {base : Nat} {i : TypeInfo} {z : Value} {bytes : Nat} (ht : P.underlying t = some (.slice e)) (hi : P.info? e = some i) (hz : i.zero = some z)
  (hsize : i.size = 5) (hby : i.bytes = bytes) (hzs : z.cells.size = 5) {v : Value} {l1 l2 : List RuleH} (hown : OwnL ruleC 5 e w base v l1) {A : Option Addr} {c n : Nat} (hn : l2.length = n) (h2 : Sl ruleC 5 w A c l2)
  (h63 : l1.length + n ≤ maxLen) (hbytes : (l1.length + n) * bytes ≤ 140737488355328) (hbase : base ≤ w.heap.size) :
  ∃ v' w', (Builtin.append_ #[t, t] ty #[v, .slice A n c]).run P w = .ok v' w' ∧ OwnL ruleC 5 e w' base v' (l1 ++ l2) ∧ w.grownBy w' v.ownBlock ∧ (∀ g, v'.ownBlock = some g → v.ownBlock = some g ∨ w.heap.size ≤ g) := by
 subst hn
 exact run_extend ht hi hz hsize hby hzs (by decide) hown h2 (fun x _ => one97 x) h63 hbytes hbase
set_option maxHeartbeats 1000000 in
theorem clone97 (A : Option Addr) (c : Nat) (l : List RuleH) (w : World) (hS : Sl ruleC 5 w A c l) (hl : l.length ≤ 1000000) :
  Calls Tryz.prog 97 #[.slice A l.length c] w fun e w' => ∃ v, e = .returned v ∧ OwnL ruleC 5 111 w' w.heap.size v l ∧ Below w.heap.size w w' := by
 have hlc := hS.le
 have hc := hS.max
 obtain ⟨i0, hi, hz0, hz1, hz2⟩ := info_parts Tryz_infoC111
 have HI := hide hi
 clear hi
 have qe : ∀ (w : World) (a : Option Addr) (n c n' c' : Nat), (binOp .eql 24 (.slice a n c) (.slice none n' c')).run Tryz.prog w = .ok (.bool a.isNone) w := fun w a n c n' c' => Lib.run_eql_slice_nil w _ _ a n c n' c' Tryz.underlying24
 rcases A with _ | ad
 ·have hn : l = [] := by
   rcases Classical.em (l = []) with h | h
   ·exact h
   ·obtain ⟨b, off, hh, _⟩ := hS.cells h; cases hh
  subst hn
  go_enter Tryz.func97, Tryz.ntmps97
  go_wp2
  go_ret
  exact ⟨_, rfl, OwnL.nil _ _ _ _ _, Below.refl _ _⟩
 ·have HS := hide (hS.alloc (.cells #[] 111))
  clear hS
  go_enter Tryz.func97, Tryz.ntmps97
  go_wp2_with (at_builtin; refine wpList_append rfl (.tmp 5) (.tmp 6) 24 rfl rfl rfl (runExt97 (base := w.heap.size) (l1 := []) (l2 := l) Tryz.underlying24 HI.out hz0 hz1 hz2 rfl (OwnL.fresh w (Nat.le_refl _)) rfl HS.out ?_ ?_ ?_) ?_)
  ·simp only [List.length_nil, maxLen]; omega
  ·simp only [List.length_nil]; omega
  ·first | exact Nat.le_refl _ | simp
  ·intro v' w' hO hg _
   have HO := hide hO
   have HB := hide (Below.grown (kalloc (Below.refl w.heap.size w) (.cells #[] 111)) hg (by simp) (fun k hk => by simp [Value.ownBlock] at hk; omega))
   clear hO hg
   go_wp2
   go_ret
   exact ⟨_, rfl, by simpa using HO.out, HB.out⟩
theorem Tryz_infoC125 : (Tryz.prog.info? 125).map (fun i => (i.zero, i.size, i.bytes)) = some (some (.agg #[.string ByteArray.empty, .int .i64 0, .string ByteArray.empty]), 3, 40) := by kernel_rfl
theorem one98 (x : PartM) : ∀ u ∈ partC x, u.oneCell' = true := by
 intro u hu
 simp only [partC, List.mem_cons, List.not_mem_nil, or_false] at hu
 rcases hu with rfl | rfl | rfl <;> rfl
theorem runExt98 {P : Program} {w : World} {t ty e : TypeId} {base : Nat} {i : TypeInfo} {z : Value} {bytes : Nat} (ht : P.underlying t = some (.slice e)) (hi : P.info? e = some i) (hz : i.zero = some z)
  (hsize : i.size = 3) (hby : i.bytes = bytes) (hzs : z.cells.size = 3) {v : Value} {l1 l2 : List PartM} (hown : OwnL partC 3 e w base v l1) {A : Option Addr} {c n : Nat} (hn : l2.length = n) (h2 : Sl partC 3 w A c l2)
  (h63 : l1.length + n ≤ maxLen) (hbytes : (l1.length + n) * bytes ≤ 140737488355328) (hbase : base ≤ w.heap.size) :
  ∃ v' w', (Builtin.append_ #[t, t] ty #[v, .slice A n c]).run P w = .ok v' w' ∧ OwnL partC 3 e w' base v' (l1 ++ l2) ∧ w.grownBy w' v.ownBlock ∧ (∀ g, v'.ownBlock = some g → v.ownBlock = some g ∨ w.heap.size ≤ g) := by
 subst hn
 exact run_extend ht hi hz hsize hby hzs (by decide) hown h2 (fun x _ => one98 x) h63 hbytes hbase
set_option maxHeartbeats 1000000 in
theorem clone98 (A : Option Addr) (c : Nat) (l : List PartM) (w : World) (hS : Sl partC 3 w A c l) (hl : l.length ≤ 1000000) :
  Calls Tryz.prog 98 #[.slice A l.length c] w fun e w' => ∃ v, e = .returned v ∧ OwnL partC 3 125 w' w.heap.size v l ∧ Below w.heap.size w w' := by
 have hlc := hS.le
 have hc := hS.max
 obtain ⟨i0, hi, hz0, hz1, hz2⟩ := info_parts Tryz_infoC125
 have HI := hide hi
 clear hi
 have qe : ∀ (w : World) (a : Option Addr) (n c n' c' : Nat), (binOp .eql 108 (.slice a n c) (.slice none n' c')).run Tryz.prog w = .ok (.bool a.isNone) w := fun w a n c n' c' => Lib.run_eql_slice_nil w _ _ a n c n' c' Tryz.underlying108
 rcases A with _ | ad
 ·have hn : l = [] := by
   rcases Classical.em (l = []) with h | h
   ·exact h
   ·obtain ⟨b, off, hh, _⟩ := hS.cells h; cases hh
  subst hn
  go_enter Tryz.func98, Tryz.ntmps98
  go_wp2
  go_ret
  exact ⟨_, rfl, OwnL.nil _ _ _ _ _, Below.refl _ _⟩
 ·have HS := hide (hS.alloc (.cells #[] 125))
  clear hS
  go_enter Tryz.func98, Tryz.ntmps98
  go_wp2_with (at_builtin; refine wpList_append rfl (.tmp 5) (.tmp 6) 108 rfl rfl rfl (runExt98 (base := w.heap.size) (l1 := []) (l2 := l) Tryz.underlying108 HI.out hz0 hz1 hz2 rfl (OwnL.fresh w (Nat.le_refl _)) rfl HS.out ?_ ?_ ?_) ?_)
  ·simp only [List.length_nil, maxLen]; omega
  ·simp only [List.length_nil]; omega
  ·first | exact Nat.le_refl _ | simp
  ·intro v' w' hO hg _
   have HO := hide hO
   have HB := hide (Below.grown (kalloc (Below.refl w.heap.size w) (.cells #[] 125)) hg (by simp) (fun k hk => by simp [Value.ownBlock] at hk; omega))
   clear hO hg
   go_wp2
   go_ret
   exact ⟨_, rfl, by simpa using HO.out, HB.out⟩
end Go.Proofs.YtkfdafeonhnloaaGreatDoor
namespace Go.Mine.C
def samePart (x y : PartM) : Bool := (x.cat.toList == y.cat.toList) && ((x.catNo == y.catNo) && (x.text.toList == y.text.toList))
def sameParts : List PartM → List PartM → Bool
 | [], [] => true
 | x :: l, y :: m => samePart x y && sameParts l m
 | _, _ => false
theorem sameParts_len : ∀ {l m : List PartM}, l.length ≠ m.length → sameParts l m = false
 | [], [], h => absurd rfl h
 | [], _ :: _, _ => rfl
 | _ :: _, [], _ => rfl
 | x :: l, y :: m, h => by
  unfold sameParts
  rw [sameParts_len (l := l) (m := m) (by simpa using h), Bool.and_false]
end Go.Mine.C
namespace Go.Proofs.YtkfdafeonhnloaaGreatDoor
open Go.RowKit Go.Shelf Go.Mine Go.Mine.C
attribute [local go_sem] Oper.semAt_some
theorem neqPart (x y : PartM) (w : World) : (binOp .neq 125 (.agg #[.string x.cat, .int .i64 x.catNo, .string x.text]) (.agg #[.string y.cat, .int .i64 y.catNo, .string y.text])).run Tryz.prog w = .ok (.bool (!samePart x y)) w := by
 have hs : Tryz.prog.stoodInHeld 125 = false := by kernel_rfl
 have hf : Tryz.prog.underlying 125 = some (.struct (Tryz.prog.fieldsOf 125)) := by
  unfold Program.fieldsOf; rw [Tryz.underlying125]
 have e1 : ∀ (s t : ByteArray) (n : Int) w, (part 9 #[Value.string s, .int .i64 n, .string t] 0).run Tryz.prog w = .ok (.string s) w := fun s t n w => by simp [part, Sem.run_bind, Tryz.sizeOf9, Tryz.isAgg9, Result.andThen_ok, go_sem]
 have e2 : ∀ (s t : ByteArray) (n : Int) w, (part 3 #[Value.string s, .int .i64 n, .string t] 1).run Tryz.prog w = .ok (.int .i64 n) w := fun s t n w => by simp [part, Sem.run_bind, Tryz.sizeOf3, Tryz.isAgg3, Result.andThen_ok, go_sem]
 have e3 : ∀ (s t : ByteArray) (n : Int) w, (part 9 #[Value.string s, .int .i64 n, .string t] 2).run Tryz.prog w = .ok (.string t) w := fun s t n w => by simp [part, Sem.run_bind, Tryz.sizeOf9, Tryz.isAgg9, Result.andThen_ok, go_sem]
 have e4 : ∀ (a b : ByteArray) w, (Op.equalIn 9999 9 (.string a) (.string b)).run Tryz.prog w = .ok (a.toList == b.toList) w := fun a b w => run_equalIn_string w 9998 9 _ _ Tryz.underlying9
 have e5 : ∀ (a b : Int) w, (Op.equalIn 9999 3 (.int .i64 a) (.int .i64 b)).run Tryz.prog w = .ok (a == b) w := fun a b w => run_equalIn_int w 9998 3 .i64 .i64 _ _ Tryz.underlying3
 rw [run_neq_struct, run_equalIn_agg w 9999 125 _ _ hf hs]
 unfold Program.fieldsOf
 rw [Tryz.underlying125]
 simp only [Op.eqFields, Sem.run_bind, e1, e2, e3, Result.andThen_ok, e4, e5]
 unfold samePart
 cases h1 : (x.cat.toList == y.cat.toList) <;> cases h2 : (x.catNo == y.catNo) <;> cases h3 : (x.text.toList == y.text.toList) <;>
  simp (config := { decide := false }) only [Bool.not_false, Bool.not_true, if_true, if_false, Bool.false_eq_true, Sem.run_bind, Sem.run_pure, Sem.run_ite, e1, e2, e3, e4, e5, h1, h2, h3, Result.andThen_ok, ne_eq, not_false_eq_true, Bool.and_true, Bool.and_false, Bool.true_and, Bool.false_and, String.reduceEq] <;> rfl

set_option maxHeartbeats 1000000 in
theorem equal67 (A B : Option Addr) (c d : Nat) (l m : List PartM) (w : World) (hS : Sl partC 3 w A c l) (hT : Sl partC 3 w B d m) :
  Calls Tryz.prog 67 #[.slice A l.length c, .slice B m.length d] w fun e w' => e = .returned (.bool (sameParts l m)) ∧ Below w.heap.size w w' := by
 have hlc := hS.le
 have hc := hS.max
 have hld := hT.le
 have hd := hT.max
 by_cases hlen : l.length = m.length
 ·have HS := hide hS
  have HT := hide hT
  have HL := hide hlen
  have hml : m.length ≤ c := by omega
  rw [← hlen]
  clear hS hT hlen hld
  go_enter Tryz.func67, Tryz.ntmps67
  go_wp2
  go_loopw [13] (fun i wr => ∃ k : Nat, k ≤ l.length ∧ i = .int .i64 k ∧ Hid (sameParts l m = sameParts (l.drop k) (m.drop k)) ∧ Hid (Below w.heap.size w wr)) (fun i _ => l.length - (nI i).toNat)
  case atStart => exact ⟨0, Nat.zero_le _, rfl, rfl, Below.refl _ _⟩
  case round =>
   obtain ⟨k, hk, rfl, HQ, HB⟩ := hrel
   by_cases hlt : k < l.length
   ·obtain ⟨x, b, off, hx, hdr, hA, hbw, c0, c1, c2⟩ := part_at (HS.out.bel HB.out) hlt
    obtain ⟨y, b', off', hy, hdr', hA', hbw', d0, d1, d2⟩ := part_at (HT.out.bel HB.out) (k := k) (by have := HL.out; omega)
    have hq := HQ.out
    rw [hdr, hdr'] at hq
    simp only [sameParts] at hq
    have e1 := fun W => neqPart x y W
    generalize samePart x y = r at *
    have HB1 := hide HB.out.drew
    have HQ1 := hide hq
    have kz : (k : Int) < (l.length : Int) := by omega
    subst hA
    subst hA'
    clear hq hx hdr hy hdr' HQ HB
    cases r
    ·go_wp2_with fail
     refine wp_still_all (by kernel_rfl) (by kernel_rfl) ?_
     repeat ((with_reducible refine wpStill_step (fun K hK => ?_)); go_simp; (try go_bits); (with_reducible refine hK _ ?_); clear hK K)
     (with_reducible refine wpStill_nil ?_)
     go_wp2
     go_ret
     exact ⟨ret_bool (by rw [HQ1.out]; rfl), HB1.out⟩
    ·go_wp2_with fail
     refine wp_still_all (by kernel_rfl) (by kernel_rfl) ?_
     repeat ((with_reducible refine wpStill_step (fun K hK => ?_)); go_simp; (try go_bits); (with_reducible refine hK _ ?_); clear hK K)
     (with_reducible refine wpStill_nil ?_)
     go_wp2
     go_roundw
     case rel => exact ⟨k + 1, by omega, by go_num, by rw [HQ1.out]; simp [hide], HB1⟩
     case measure => simp [nI]; omega
   ·have hq := HQ.out
    rw [List.drop_of_length_le (show l.length ≤ k by omega), List.drop_of_length_le (show m.length ≤ k by have := HL.out; omega)] at hq
    have HQ1 := hide hq
    clear hq
    go_wp2
    go_ret
    exact ⟨ret_bool (by rw [HQ1.out]; rfl), HB.out⟩
 ·have H := hide (sameParts_len hlen)
  have g0 : ((l.length : Int) == (m.length : Int)) = false := by simp; omega
  have g1 : ((l.length : Int) != (m.length : Int)) = true := by rw [bne, g0]; rfl
  have g2 : (l.length == m.length) = false := by simpa using hlen
  have g3 : (l.length != m.length) = true := by rw [bne, g2]; rfl
  clear hS hT
  go_enter Tryz.func67, Tryz.ntmps67
  go_wp2
  go_ret
  exact ⟨ret_bool (by rw [H.out]), Below.refl _ _⟩
end Go.Proofs.YtkfdafeonhnloaaGreatDoor
namespace Go.Mine.C
def sameEnt (x y : EntH) : Bool := x.catNo == y.catNo
def sameRule (x y : RuleH) : Bool := (x.catNo == y.catNo) && sameParts x.parts y.parts
def sameEnts : List EntH → List EntH → Bool
 | [], [] => true
 | x :: l, y :: m => sameEnt x y && sameEnts l m
 | _, _ => false
def sameRules : List RuleH → List RuleH → Bool
 | [], [] => true
 | x :: l, y :: m => sameRule x y && sameRules l m
 | _, _ => false
end Go.Mine.C
namespace Go.Proofs.YtkfdafeonhnloaaGreatDoor
open Go.RowKit Go.Shelf Go.Mine Go.Mine.C
attribute [local go_sem] Oper.semAt_some
theorem same64 (x y : EntH) (w : World) : Calls Tryz.prog 64 #[entV x, entV y] w fun e w' => e = .returned (.bool (sameEnt x y)) ∧ Below w.heap.size w w' := by
 have H := hide (show sameEnt x y = (x.catNo == y.catNo) from rfl)
 generalize sameEnt x y = R at *
 have HB := hide (kalloc (kalloc (Below.refl w.heap.size w) (.cells #[.string x.text, .string x.cat, .int .i64 x.catNo, .slice x.gA x.gives.length x.gC, .int .i64 x.cost] 107)) (.cells #[.string y.text, .string y.cat, .int .i64 y.catNo, .slice y.gA y.gives.length y.gC, .int .i64 y.cost] 107))
 simp only [entV]
 cases g : (x.catNo == y.catNo)
 all_goals
  rw [g] at H
  go_enter Tryz.func64, Tryz.ntmps64
  go_wp2
  go_ret
  exact ⟨ret_bool H.out.symm, HB.out⟩
theorem same66 (x y : RuleH) (w : World) (hx : RuleOkW w x) (hy : RuleOkW w y) : Calls Tryz.prog 66 #[ruleV x, ruleV y] w fun e w' => e = .returned (.bool (sameRule x y)) ∧ Below w.heap.size w w' := by
 have H := hide (show sameRule x y = ((x.catNo == y.catNo) && sameParts x.parts y.parts) from rfl)
 generalize sameRule x y = R at *
 have k2 := kalloc (kalloc (Below.refl w.heap.size w) (.cells #[.string x.cat, .int .i64 x.catNo, .slice x.pA x.parts.length x.pC, .slice x.gA x.gives.length x.gC, .int .i64 x.cost] 111)) (.cells #[.string y.cat, .int .i64 y.catNo, .slice y.pA y.parts.length y.pC, .slice y.gA y.gives.length y.gC, .int .i64 y.cost] 111)
 have HB := hide k2
 have h1 := hx.parts.le
 have h2 := hx.parts.max
 have h3 := hy.parts.le
 have h4 := hy.parts.max
 have K := hide (equal67 _ _ _ _ _ _ _ (hx.parts.bel k2) (hy.parts.bel k2))
 simp only [ruleV]
 generalize sameParts x.parts y.parts = r at *
 clear hx hy k2
 cases g : (x.catNo == y.catNo)
 ·rw [g] at H
  clear K
  go_enter Tryz.func66, Tryz.ntmps66
  go_wp2
  go_ret
  exact ⟨ret_bool H.out.symm, HB.out⟩
 ·rw [g] at H
  go_enter Tryz.func66, Tryz.ntmps66
  go_wp2_with fail
  refine K.out.mono ?_
  rintro e w1 ⟨rfl, hb⟩
  have HB1 := hide (kcall HB.out hb)
  clear hb K
  go_wp2
  go_ret
  exact ⟨ret_bool H.out.symm, HB1.out⟩
set_option maxHeartbeats 2000000 in
theorem equalf63 (A B : Option Addr) (c d : Nat) (l m : List EntH) (w : World) (hS : Sl entC 5 w A c l) (hT : Sl entC 5 w B d m) (hlen : l.length = m.length) :
  Calls Tryz.prog 63 #[.slice A l.length c, .slice B m.length d, .func (.func 64) #[] #[]] w fun e w' => e = .returned (.bool (sameEnts l m)) ∧ Below w.heap.size w w' := by
 have hlc := hS.le
 have hc := hS.max
 have hd := hT.max
 have hml : l.length ≤ d := by have := hT.le; omega
 have e64 : ∀ args w, (callFunc 64 args).run Tryz.prog w = .ok (.enter 64 args) w := enters_of Tryz.func64 (by kernel_rfl) rfl
 have HS := hide hS
 have HT := hide hT
 have HL := hide hlen
 rw [← hlen]
 clear hS hT hlen
 go_enter Tryz.func63, Tryz.ntmps63
 go_wp2
 go_loopw [17] (fun i wr => ∃ k : Nat, k ≤ l.length ∧ i = .int .i64 k ∧ Hid (sameEnts l m = sameEnts (l.drop k) (m.drop k)) ∧ Hid (Below w.heap.size w wr)) (fun i _ => l.length - (nI i).toNat)
 case atStart => exact ⟨0, Nat.zero_le _, rfl, rfl, Below.refl _ _⟩
 case round =>
  obtain ⟨k, hk, rfl, HQ, HB⟩ := hrel
  by_cases hlt : k < l.length
  ·obtain ⟨x, b, off, hx, hdr, hA, hbw, c0, c1, c2, c3, c4⟩ := ent_at (HS.out.bel HB.out) hlt
   obtain ⟨y, b', off', hy, hdr', hA', hbw', d0, d1, d2, d3, d4⟩ := ent_at (HT.out.bel HB.out) (k := k) (by have := HL.out; omega)
   have hq := HQ.out
   rw [hdr, hdr'] at hq
   simp only [sameEnts] at hq
   have k2 := kcall HB.out (kalloc (kalloc (Below.refl wr.heap.size wr) (.cells #[.string x.text, .string x.cat, .int .i64 x.catNo, .slice x.gA x.gives.length x.gC, .int .i64 x.cost] 107)) (.cells #[.string y.text, .string y.cat, .int .i64 y.catNo, .slice y.gA y.gives.length y.gC, .int .i64 y.cost] 107))
   have K := same64 x y ((wr.alloc (.cells #[.string x.text, .string x.cat, .int .i64 x.catNo, .slice x.gA x.gives.length x.gC, .int .i64 x.cost] 107)).alloc (.cells #[.string y.text, .string y.cat, .int .i64 y.catNo, .slice y.gA y.gives.length y.gC, .int .i64 y.cost] 107))
   simp only [entV] at K
   have K := hide K
   have HB1 := hide k2
   generalize sameEnt x y = r at *
   have HQ1 := hide hq
   have kz : (k : Int) < (l.length : Int) := by omega
   subst hA
   subst hA'
   clear hq hx hdr hy hdr' HQ HB k2
   go_wp2_with fail
   refine K.out.mono ?_
   rintro e w1 ⟨rfl, hb⟩
   have HB2 := hide (kcall HB1.out hb)
   clear hb K HB1
   cases r
   ·go_wp2
    go_ret
    exact ⟨ret_bool (by rw [HQ1.out]; rfl), HB2.out⟩
   ·go_wp2
    go_roundw
    case rel => exact ⟨k + 1, by omega, by go_num, by rw [HQ1.out]; simp [hide], HB2⟩
    case measure => simp [nI]; omega
  ·have hq := HQ.out
   rw [List.drop_of_length_le (show l.length ≤ k by omega), List.drop_of_length_le (show m.length ≤ k by have := HL.out; omega)] at hq
   have HQ1 := hide hq
   clear hq
   go_wp2
   go_ret
   exact ⟨ret_bool (by rw [HQ1.out]; rfl), HB.out⟩
set_option maxHeartbeats 2000000 in
theorem equalf65 (A B : Option Addr) (c d : Nat) (l m : List RuleH) (w : World) (hS : Sl ruleC 5 w A c l) (hT : Sl ruleC 5 w B d m) (hlen : l.length = m.length) (hxs : ∀ x ∈ l, RuleOkW w x) (hys : ∀ x ∈ m, RuleOkW w x) :
  Calls Tryz.prog 65 #[.slice A l.length c, .slice B m.length d, .func (.func 66) #[] #[]] w fun e w' => e = .returned (.bool (sameRules l m)) ∧ Below w.heap.size w w' := by
 have hlc := hS.le
 have hc := hS.max
 have hd := hT.max
 have hml : l.length ≤ d := by have := hT.le; omega
 have e64 : ∀ args w, (callFunc 66 args).run Tryz.prog w = .ok (.enter 66 args) w := enters_of Tryz.func66 (by kernel_rfl) rfl
 have HS := hide hS
 have HT := hide hT
 have HL := hide hlen
 rw [← hlen]
 clear hS hT hlen
 go_enter Tryz.func65, Tryz.ntmps65
 go_wp2
 go_loopw [17] (fun i wr => ∃ k : Nat, k ≤ l.length ∧ i = .int .i64 k ∧ Hid (sameRules l m = sameRules (l.drop k) (m.drop k)) ∧ Hid (Below w.heap.size w wr)) (fun i _ => l.length - (nI i).toNat)
 case atStart => exact ⟨0, Nat.zero_le _, rfl, rfl, Below.refl _ _⟩
 case round =>
  obtain ⟨k, hk, rfl, HQ, HB⟩ := hrel
  by_cases hlt : k < l.length
  ·obtain ⟨x, b, off, hx, hdr, hA, hbw, c0, c1, c2, c3, c4⟩ := rule_at (HS.out.bel HB.out) hlt
   obtain ⟨y, b', off', hy, hdr', hA', hbw', d0, d1, d2, d3, d4⟩ := rule_at (HT.out.bel HB.out) (k := k) (by have := HL.out; omega)
   have hq := HQ.out
   rw [hdr, hdr'] at hq
   simp only [sameRules] at hq
   have k2 := kcall HB.out (kalloc (kalloc (Below.refl wr.heap.size wr) (.cells #[.string x.cat, .int .i64 x.catNo, .slice x.pA x.parts.length x.pC, .slice x.gA x.gives.length x.gC, .int .i64 x.cost] 111)) (.cells #[.string y.cat, .int .i64 y.catNo, .slice y.pA y.parts.length y.pC, .slice y.gA y.gives.length y.gC, .int .i64 y.cost] 111))
   have K := same66 x y ((wr.alloc (.cells #[.string x.cat, .int .i64 x.catNo, .slice x.pA x.parts.length x.pC, .slice x.gA x.gives.length x.gC, .int .i64 x.cost] 111)).alloc (.cells #[.string y.cat, .int .i64 y.catNo, .slice y.pA y.parts.length y.pC, .slice y.gA y.gives.length y.gC, .int .i64 y.cost] 111)) ((hxs x (List.mem_of_getElem? hx)).bel k2) ((hys y (List.mem_of_getElem? hy)).bel k2)
   simp only [ruleV] at K
   have K := hide K
   have HB1 := hide k2
   generalize sameRule x y = r at *
   have HQ1 := hide hq
   have kz : (k : Int) < (l.length : Int) := by omega
   subst hA
   subst hA'
   clear hq hx hdr hy hdr' HQ HB k2
   go_wp2_with fail
   refine K.out.mono ?_
   rintro e w1 ⟨rfl, hb⟩
   have HB2 := hide (kcall HB1.out hb)
   clear hb K HB1
   cases r
   ·go_wp2
    go_ret
    exact ⟨ret_bool (by rw [HQ1.out]; rfl), HB2.out⟩
   ·go_wp2
    go_roundw
    case rel => exact ⟨k + 1, by omega, by go_num, by rw [HQ1.out]; simp [hide], HB2⟩
    case measure => simp [nI]; omega
  ·have hq := HQ.out
   rw [List.drop_of_length_le (show l.length ≤ k by omega), List.drop_of_length_le (show m.length ≤ k by have := HL.out; omega)] at hq
   have HQ1 := hide hq
   clear hq
   go_wp2
   go_ret
   exact ⟨ret_bool (by rw [HQ1.out]; rfl), HB.out⟩
end Go.Proofs.YtkfdafeonhnloaaGreatDoor
