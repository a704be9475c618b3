/-
  slices.ContainsFunc at numbers, texts, entries, parts and rules, over any function that answers a bool and leaves what lay before it as it was.
  types.all at numbers, texts, entries, parts and rules: one list.
-/
import Derived.Test.YtkfdafeonhnloaaGreatDoorGM4
namespace Go.Mine
open Go.RowKit
def Pred {α : Type} (P : Program) (arg : α → Value) (G : Nat) (bs : Array Value) (p : α → Bool) (l : List α) (w : World) : Prop :=
 ∀ x ∈ l, ∀ w', Below w.heap.size w w' → Calls P G (#[arg x] ++ bs) w' fun e w'' => e = .returned (.bool (p x)) ∧ Below w'.heap.size w' w''
def FoundI (b : Bool) (e : Ending) : Prop := ∃ i : Int, e = .returned (.int .i64 i) ∧ decide (0 ≤ i) = b
end Go.Mine
namespace Go.Proofs.YtkfdafeonhnloaaGreatDoor
open Go.RowKit Go.Shelf Go.Mine Go.Mine.C
set_option maxHeartbeats 1000000 in
theorem indexf61 (G : Nat) (bs : Array Value) (hG : ∀ args w, (callFunc G args).run Tryz.prog w = .ok (.enter G args) w) (p : Int → Bool) (A : Option Addr) (c : Nat) (l : List Int) (w : World) (hS : Sl ic 1 w A c l)
  (hp : Pred Tryz.prog (fun x => .int .i64 x) G bs p l w) :
  Calls Tryz.prog 61 #[.slice A l.length c, .func (.func G) #[] bs] w fun e w' => FoundI (l.any p) e ∧ Below w.heap.size w w' := by
 have hlc := hS.le
 have hc := hS.max
 have HP := hide hp
 have HS := hide hS
 clear hp hS
 go_enter Tryz.func61, Tryz.ntmps61
 go_wp2
 go_loopw [8] (fun i wr => ∃ k : Nat, k ≤ l.length ∧ i = .int .i64 k ∧ Hid (l.any p = (l.drop k).any p) ∧ Below w.heap.size w wr) (fun i _ => l.length - (nI i).toNat)
 case atStart => exact ⟨0, Nat.zero_le _, rfl, hide rfl, Below.refl _ _⟩
 case round =>
  obtain ⟨k, hk, rfl, hq, hb⟩ := hrel
  by_cases hlt : k < l.length
  ·obtain ⟨x, b, off, hx, hdr, rfl, hbw, c1⟩ := Sl.ic_at (HS.out.bel hb) hlt
   have hq := hq.out
   rw [hdr, List.any_cons] at hq
   have K := HP.out x (List.mem_of_getElem? hx) wr hb
   have K := hide K
   have HQ := hide hq
   have HB := hide hb
   clear hq hdr hx hb
   go_wp2_with fail
   refine K.out.mono ?_
   rintro e w1 ⟨rfl, hb1⟩
   have HB1 := hide (kcall HB.out hb1)
   clear HB hb1 K
   generalize p x = r at *
   cases r
   ·go_wp2
    go_roundw
    case rel => exact ⟨k + 1, by omega, by go_num, by rw [HQ.out]; simp [hide], HB1.out⟩
    case measure => simp [nI]; omega
   ·go_wp2
    go_ret
    exact ⟨⟨_, rfl, by rw [HQ.out]; simp⟩, HB1.out⟩
  ·have hq := hq.out
   rw [List.drop_of_length_le (by omega)] at hq
   have HQ := hide hq
   have HB := hide hb
   clear hq hb
   go_wp2
   go_ret
   exact ⟨⟨_, rfl, by rw [HQ.out]; rfl⟩, HB.out⟩
theorem contains29 (G : Nat) (bs : Array Value) (hG : ∀ args w, (callFunc G args).run Tryz.prog w = .ok (.enter G args) w) (p : Int → Bool) (A : Option Addr) (c : Nat) (l : List Int) (w : World) (hS : Sl ic 1 w A c l)
  (hp : Pred Tryz.prog (fun x => .int .i64 x) G bs p l w) :
  Calls Tryz.prog 29 #[.slice A l.length c, .func (.func G) #[] bs] w fun e w' => e = .returned (.bool (l.any p)) ∧ Below w.heap.size w w' := by
 have K := hide (indexf61 G bs hG p A c l w hS hp)
 generalize l.any p = r at K
 clear hp hS
 go_enter Tryz.func29, Tryz.ntmps29
 go_wp2_with fail
 refine K.out.mono ?_
 rintro e w1 ⟨⟨i, rfl, hi⟩, hb⟩
 go_wp2
 go_ret
 exact ⟨ret_bool (by first | rfl | exact hi), hb⟩
set_option maxHeartbeats 1000000 in
theorem indexf107 (G : Nat) (bs : Array Value) (hG : ∀ args w, (callFunc G args).run Tryz.prog w = .ok (.enter G args) w) (p : ByteArray → Bool) (A : Option Addr) (c : Nat) (l : List ByteArray) (w : World) (hS : Sl sc 1 w A c l)
  (hp : Pred Tryz.prog (fun x => .string x) G bs p l w) :
  Calls Tryz.prog 107 #[.slice A l.length c, .func (.func G) #[] bs] w fun e w' => FoundI (l.any p) e ∧ Below w.heap.size w w' := by
 have hlc := hS.le
 have hc := hS.max
 have HP := hide hp
 have HS := hide hS
 clear hp hS
 go_enter Tryz.func107, Tryz.ntmps107
 go_wp2
 go_loopw [8] (fun i wr => ∃ k : Nat, k ≤ l.length ∧ i = .int .i64 k ∧ Hid (l.any p = (l.drop k).any p) ∧ Below w.heap.size w wr) (fun i _ => l.length - (nI i).toNat)
 case atStart => exact ⟨0, Nat.zero_le _, rfl, hide rfl, Below.refl _ _⟩
 case round =>
  obtain ⟨k, hk, rfl, hq, hb⟩ := hrel
  by_cases hlt : k < l.length
  ·obtain ⟨x, b, off, hx, hdr, rfl, hbw, c1⟩ := Sl.sc_at (HS.out.bel hb) hlt
   have hq := hq.out
   rw [hdr, List.any_cons] at hq
   have K := HP.out x (List.mem_of_getElem? hx) wr hb
   have K := hide K
   have HQ := hide hq
   have HB := hide hb
   clear hq hdr hx hb
   go_wp2_with fail
   refine K.out.mono ?_
   rintro e w1 ⟨rfl, hb1⟩
   have HB1 := hide (kcall HB.out hb1)
   clear HB hb1 K
   generalize p x = r at *
   cases r
   ·go_wp2
    go_roundw
    case rel => exact ⟨k + 1, by omega, by go_num, by rw [HQ.out]; simp [hide], HB1.out⟩
    case measure => simp [nI]; omega
   ·go_wp2
    go_ret
    exact ⟨⟨_, rfl, by rw [HQ.out]; simp⟩, HB1.out⟩
  ·have hq := hq.out
   rw [List.drop_of_length_le (by omega)] at hq
   have HQ := hide hq
   have HB := hide hb
   clear hq hb
   go_wp2
   go_ret
   exact ⟨⟨_, rfl, by rw [HQ.out]; rfl⟩, HB.out⟩
theorem contains83 (G : Nat) (bs : Array Value) (hG : ∀ args w, (callFunc G args).run Tryz.prog w = .ok (.enter G args) w) (p : ByteArray → Bool) (A : Option Addr) (c : Nat) (l : List ByteArray) (w : World) (hS : Sl sc 1 w A c l)
  (hp : Pred Tryz.prog (fun x => .string x) G bs p l w) :
  Calls Tryz.prog 83 #[.slice A l.length c, .func (.func G) #[] bs] w fun e w' => e = .returned (.bool (l.any p)) ∧ Below w.heap.size w w' := by
 have K := hide (indexf107 G bs hG p A c l w hS hp)
 generalize l.any p = r at K
 clear hp hS
 go_enter Tryz.func83, Tryz.ntmps83
 go_wp2_with fail
 refine K.out.mono ?_
 rintro e w1 ⟨⟨i, rfl, hi⟩, hb⟩
 go_wp2
 go_ret
 exact ⟨ret_bool (by first | rfl | exact hi), hb⟩
set_option maxHeartbeats 1000000 in
theorem indexf175 (G : Nat) (bs : Array Value) (hG : ∀ args w, (callFunc G args).run Tryz.prog w = .ok (.enter G args) w) (p : EntH → Bool) (A : Option Addr) (c : Nat) (l : List EntH) (w : World) (hS : Sl entC 5 w A c l)
  (hp : Pred Tryz.prog (entV) G bs p l w) :
  Calls Tryz.prog 175 #[.slice A l.length c, .func (.func G) #[] bs] w fun e w' => FoundI (l.any p) e ∧ Below w.heap.size w w' := by
 have hlc := hS.le
 have hc := hS.max
 have HP := hide hp
 have HS := hide hS
 clear hp hS
 go_enter Tryz.func175, Tryz.ntmps175
 go_wp2
 go_loopw [8] (fun i wr => ∃ k : Nat, k ≤ l.length ∧ i = .int .i64 k ∧ Hid (l.any p = (l.drop k).any p) ∧ Below w.heap.size w wr) (fun i _ => l.length - (nI i).toNat)
 case atStart => exact ⟨0, Nat.zero_le _, rfl, hide rfl, Below.refl _ _⟩
 case round =>
  obtain ⟨k, hk, rfl, hq, hb⟩ := hrel
  by_cases hlt : k < l.length
  ·obtain ⟨x, b, off, hx, hdr, rfl, hbw, c1, c2, c3, c4, c5⟩ := ent_at (HS.out.bel hb) hlt
   have hq := hq.out
   rw [hdr, List.any_cons] at hq
   have K := HP.out x (List.mem_of_getElem? hx) wr hb
   simp only [entV] at K
   have K := hide K
   have HQ := hide hq
   have HB := hide hb
   clear hq hdr hx hb
   go_wp2_with fail
   refine K.out.mono ?_
   rintro e w1 ⟨rfl, hb1⟩
   have HB1 := hide (kcall HB.out hb1)
   clear HB hb1 K
   generalize p x = r at *
   cases r
   ·go_wp2
    go_roundw
    case rel => exact ⟨k + 1, by omega, by go_num, by rw [HQ.out]; simp [hide], HB1.out⟩
    case measure => simp [nI]; omega
   ·go_wp2
    go_ret
    exact ⟨⟨_, rfl, by rw [HQ.out]; simp⟩, HB1.out⟩
  ·have hq := hq.out
   rw [List.drop_of_length_le (by omega)] at hq
   have HQ := hide hq
   have HB := hide hb
   clear hq hb
   go_wp2
   go_ret
   exact ⟨⟨_, rfl, by rw [HQ.out]; rfl⟩, HB.out⟩
theorem contains162 (G : Nat) (bs : Array Value) (hG : ∀ args w, (callFunc G args).run Tryz.prog w = .ok (.enter G args) w) (p : EntH → Bool) (A : Option Addr) (c : Nat) (l : List EntH) (w : World) (hS : Sl entC 5 w A c l)
  (hp : Pred Tryz.prog (entV) G bs p l w) :
  Calls Tryz.prog 162 #[.slice A l.length c, .func (.func G) #[] bs] w fun e w' => e = .returned (.bool (l.any p)) ∧ Below w.heap.size w w' := by
 have K := hide (indexf175 G bs hG p A c l w hS hp)
 generalize l.any p = r at K
 clear hp hS
 go_enter Tryz.func162, Tryz.ntmps162
 go_wp2_with fail
 refine K.out.mono ?_
 rintro e w1 ⟨⟨i, rfl, hi⟩, hb⟩
 go_wp2
 go_ret
 exact ⟨ret_bool (by first | rfl | exact hi), hb⟩
set_option maxHeartbeats 1000000 in
theorem indexf174 (G : Nat) (bs : Array Value) (hG : ∀ args w, (callFunc G args).run Tryz.prog w = .ok (.enter G args) w) (p : PartM → Bool) (A : Option Addr) (c : Nat) (l : List PartM) (w : World) (hS : Sl partC 3 w A c l)
  (hp : Pred Tryz.prog (partV) G bs p l w) :
  Calls Tryz.prog 174 #[.slice A l.length c, .func (.func G) #[] bs] w fun e w' => FoundI (l.any p) e ∧ Below w.heap.size w w' := by
 have hlc := hS.le
 have hc := hS.max
 have HP := hide hp
 have HS := hide hS
 clear hp hS
 go_enter Tryz.func174, Tryz.ntmps174
 go_wp2
 go_loopw [8] (fun i wr => ∃ k : Nat, k ≤ l.length ∧ i = .int .i64 k ∧ Hid (l.any p = (l.drop k).any p) ∧ Below w.heap.size w wr) (fun i _ => l.length - (nI i).toNat)
 case atStart => exact ⟨0, Nat.zero_le _, rfl, hide rfl, Below.refl _ _⟩
 case round =>
  obtain ⟨k, hk, rfl, hq, hb⟩ := hrel
  by_cases hlt : k < l.length
  ·obtain ⟨x, b, off, hx, hdr, rfl, hbw, c1, c2, c3⟩ := part_at (HS.out.bel hb) hlt
   have hq := hq.out
   rw [hdr, List.any_cons] at hq
   have K := HP.out x (List.mem_of_getElem? hx) wr hb
   simp only [partV] at K
   have K := hide K
   have HQ := hide hq
   have HB := hide hb
   clear hq hdr hx hb
   go_wp2_with fail
   refine K.out.mono ?_
   rintro e w1 ⟨rfl, hb1⟩
   have HB1 := hide (kcall HB.out hb1)
   clear HB hb1 K
   generalize p x = r at *
   cases r
   ·go_wp2
    go_roundw
    case rel => exact ⟨k + 1, by omega, by go_num, by rw [HQ.out]; simp [hide], HB1.out⟩
    case measure => simp [nI]; omega
   ·go_wp2
    go_ret
    exact ⟨⟨_, rfl, by rw [HQ.out]; simp⟩, HB1.out⟩
  ·have hq := hq.out
   rw [List.drop_of_length_le (by omega)] at hq
   have HQ := hide hq
   have HB := hide hb
   clear hq hb
   go_wp2
   go_ret
   exact ⟨⟨_, rfl, by rw [HQ.out]; rfl⟩, HB.out⟩
theorem contains160 (G : Nat) (bs : Array Value) (hG : ∀ args w, (callFunc G args).run Tryz.prog w = .ok (.enter G args) w) (p : PartM → Bool) (A : Option Addr) (c : Nat) (l : List PartM) (w : World) (hS : Sl partC 3 w A c l)
  (hp : Pred Tryz.prog (partV) G bs p l w) :
  Calls Tryz.prog 160 #[.slice A l.length c, .func (.func G) #[] bs] w fun e w' => e = .returned (.bool (l.any p)) ∧ Below w.heap.size w w' := by
 have K := hide (indexf174 G bs hG p A c l w hS hp)
 generalize l.any p = r at K
 clear hp hS
 go_enter Tryz.func160, Tryz.ntmps160
 go_wp2_with fail
 refine K.out.mono ?_
 rintro e w1 ⟨⟨i, rfl, hi⟩, hb⟩
 go_wp2
 go_ret
 exact ⟨ret_bool (by first | rfl | exact hi), hb⟩
set_option maxHeartbeats 1000000 in
theorem indexf165 (G : Nat) (bs : Array Value) (hG : ∀ args w, (callFunc G args).run Tryz.prog w = .ok (.enter G args) w) (p : RuleH → Bool) (A : Option Addr) (c : Nat) (l : List RuleH) (w : World) (hS : Sl ruleC 5 w A c l)
  (hp : Pred Tryz.prog (ruleV) G bs p l w) :
  Calls Tryz.prog 165 #[.slice A l.length c, .func (.func G) #[] bs] w fun e w' => FoundI (l.any p) e ∧ Below w.heap.size w w' := by
 have hlc := hS.le
 have hc := hS.max
 have HP := hide hp
 have HS := hide hS
 clear hp hS
 go_enter Tryz.func165, Tryz.ntmps165
 go_wp2
 go_loopw [8] (fun i wr => ∃ k : Nat, k ≤ l.length ∧ i = .int .i64 k ∧ Hid (l.any p = (l.drop k).any p) ∧ Below w.heap.size w wr) (fun i _ => l.length - (nI i).toNat)
 case atStart => exact ⟨0, Nat.zero_le _, rfl, hide rfl, Below.refl _ _⟩
 case round =>
  obtain ⟨k, hk, rfl, hq, hb⟩ := hrel
  by_cases hlt : k < l.length
  ·obtain ⟨x, b, off, hx, hdr, rfl, hbw, c1, c2, c3, c4, c5⟩ := rule_at (HS.out.bel hb) hlt
   have hq := hq.out
   rw [hdr, List.any_cons] at hq
   have K := HP.out x (List.mem_of_getElem? hx) wr hb
   simp only [ruleV] at K
   have K := hide K
   have HQ := hide hq
   have HB := hide hb
   clear hq hdr hx hb
   go_wp2_with fail
   refine K.out.mono ?_
   rintro e w1 ⟨rfl, hb1⟩
   have HB1 := hide (kcall HB.out hb1)
   clear HB hb1 K
   generalize p x = r at *
   cases r
   ·go_wp2
    go_roundw
    case rel => exact ⟨k + 1, by omega, by go_num, by rw [HQ.out]; simp [hide], HB1.out⟩
    case measure => simp [nI]; omega
   ·go_wp2
    go_ret
    exact ⟨⟨_, rfl, by rw [HQ.out]; simp⟩, HB1.out⟩
  ·have hq := hq.out
   rw [List.drop_of_length_le (by omega)] at hq
   have HQ := hide hq
   have HB := hide hb
   clear hq hb
   go_wp2
   go_ret
   exact ⟨⟨_, rfl, by rw [HQ.out]; rfl⟩, HB.out⟩
theorem contains136 (G : Nat) (bs : Array Value) (hG : ∀ args w, (callFunc G args).run Tryz.prog w = .ok (.enter G args) w) (p : RuleH → Bool) (A : Option Addr) (c : Nat) (l : List RuleH) (w : World) (hS : Sl ruleC 5 w A c l)
  (hp : Pred Tryz.prog (ruleV) G bs p l w) :
  Calls Tryz.prog 136 #[.slice A l.length c, .func (.func G) #[] bs] w fun e w' => e = .returned (.bool (l.any p)) ∧ Below w.heap.size w w' := by
 have K := hide (indexf165 G bs hG p A c l w hS hp)
 generalize l.any p = r at K
 clear hp hS
 go_enter Tryz.func136, Tryz.ntmps136
 go_wp2_with fail
 refine K.out.mono ?_
 rintro e w1 ⟨⟨i, rfl, hi⟩, hb⟩
 go_wp2
 go_ret
 exact ⟨ret_bool (by first | rfl | exact hi), hb⟩
theorem any_notp {α : Type} (p : α → Bool) (l : List α) : l.any (fun x => !p x) = !l.all p := by
 induction l with
 | nil => rfl
 | cons x l ih => rw [List.any_cons, List.all_cons, ih, Bool.not_and]
set_option maxHeartbeats 1000000 in
theorem not173 (G : Nat) (bs : Array Value) (hG : ∀ args w, (callFunc G args).run Tryz.prog w = .ok (.enter G args) w) (r : Bool) (x : Int) (q : Nat) (w : World) (hq : Blk w q 77 #[.func (.func G) #[] bs])
  (K : ∀ w', Below w.heap.size w w' → Calls Tryz.prog G (#[.int .i64 x] ++ bs) w' fun e w'' => e = .returned (.bool r) ∧ Below w'.heap.size w' w'') :
  Calls Tryz.prog 173 #[.int .i64 x, .pointer (some ⟨q, 0, none⟩)] w fun e w' => e = .returned (.bool (!r)) ∧ Below w.heap.size w w' := by
 have y0 := hq.cell (v := .func (.func G) #[] bs) 0 rfl
 have z0 := hq.lt
 have k0 := Below.refl w.heap.size w
 have K0 := hide (K _ k0)
 have H := hide k0
 clear K k0 hq
 go_enter Tryz.func173, Tryz.ntmps173
 go_wp2_with fail
 refine K0.out.mono ?_
 rintro e w1 ⟨rfl, hb⟩
 have HB := hide (kcall H.out hb)
 clear hb H K0
 go_wp2
 go_ret
 exact ⟨rfl, HB.out⟩
set_option maxHeartbeats 1000000 in
theorem all157 (G : Nat) (bs : Array Value) (hG : ∀ args w, (callFunc G args).run Tryz.prog w = .ok (.enter G args) w) (p : Int → Bool) (A : Option Addr) (c : Nat) (l : List Int) (q : Nat) (w : World) (hS : Sl ic 1 w A c l)
  (hq : Blk w q 31 #[.slice A l.length c]) (hp : Pred Tryz.prog (fun x => .int .i64 x) G bs p l w) :
  Calls Tryz.prog 157 #[.func (.func G) #[] bs, .slice (some ⟨q, 0, none⟩) 1 1] w fun e w' => e = .returned (.bool (l.all p)) ∧ Below w.heap.size w w' := by
 have e1 : ∀ args w, (callFunc 173 args).run Tryz.prog w = .ok (.enter 173 args) w := enters_of Tryz.func173 (by kernel_rfl) rfl
 have y0 := hq.cell (v := .slice A l.length c) 0 rfl
 have z0 := hq.lt
 have k1 := kalloc (Below.refl w.heap.size w) (.cells #[.func (.func G) #[] bs] 77)
 have B := Blk.new w #[.func (.func G) #[] bs] 77
 have K := hide (contains29 173 #[.pointer (some ⟨w.heap.size, 0, none⟩)] e1 (fun x => !p x) A c l _ (hS.bel k1) (fun x hx w' hb => by
  have hpx := hp x hx
  have h := not173 G bs hG (p x) x w.heap.size w' (B.bel hb) (fun w2 h2 => hpx w2 (kcall (kcall k1 hb) h2))
  exact h))
 have H := hide k1
 rw [any_notp] at K
 generalize l.all p = r at K ⊢
 clear hp hS hq B k1
 go_enter Tryz.func157, Tryz.ntmps157
 go_wp2
 refine wp_loop_rounds 2 ?_
 rw [rounds_succ]
 go_wp2_with fail
 refine K.out.mono ?_
 rintro e w1 ⟨rfl, hb⟩
 have HB := hide (kcall H.out hb)
 clear hb H K
 cases r
 ·go_wp2
  go_ret
  exact ⟨rfl, HB.out⟩
 ·go_wp2
  rw [rounds_succ]
  go_wp2
  go_ret
  exact ⟨rfl, HB.out⟩
set_option maxHeartbeats 1000000 in
theorem not159 (G : Nat) (bs : Array Value) (hG : ∀ args w, (callFunc G args).run Tryz.prog w = .ok (.enter G args) w) (r : Bool) (x : ByteArray) (q : Nat) (w : World) (hq : Blk w q 87 #[.func (.func G) #[] bs])
  (K : ∀ w', Below w.heap.size w w' → Calls Tryz.prog G (#[.string x] ++ bs) w' fun e w'' => e = .returned (.bool r) ∧ Below w'.heap.size w' w'') :
  Calls Tryz.prog 159 #[.string x, .pointer (some ⟨q, 0, none⟩)] w fun e w' => e = .returned (.bool (!r)) ∧ Below w.heap.size w w' := by
 have y0 := hq.cell (v := .func (.func G) #[] bs) 0 rfl
 have z0 := hq.lt
 have k0 := Below.refl w.heap.size w
 have K0 := hide (K _ k0)
 have H := hide k0
 clear K k0 hq
 go_enter Tryz.func159, Tryz.ntmps159
 go_wp2_with fail
 refine K0.out.mono ?_
 rintro e w1 ⟨rfl, hb⟩
 have HB := hide (kcall H.out hb)
 clear hb H K0
 go_wp2
 go_ret
 exact ⟨rfl, HB.out⟩
set_option maxHeartbeats 1000000 in
theorem all129 (G : Nat) (bs : Array Value) (hG : ∀ args w, (callFunc G args).run Tryz.prog w = .ok (.enter G args) w) (p : ByteArray → Bool) (A : Option Addr) (c : Nat) (l : List ByteArray) (q : Nat) (w : World) (hS : Sl sc 1 w A c l)
  (hq : Blk w q 22 #[.slice A l.length c]) (hp : Pred Tryz.prog (fun x => .string x) G bs p l w) :
  Calls Tryz.prog 129 #[.func (.func G) #[] bs, .slice (some ⟨q, 0, none⟩) 1 1] w fun e w' => e = .returned (.bool (l.all p)) ∧ Below w.heap.size w w' := by
 have e1 : ∀ args w, (callFunc 159 args).run Tryz.prog w = .ok (.enter 159 args) w := enters_of Tryz.func159 (by kernel_rfl) rfl
 have y0 := hq.cell (v := .slice A l.length c) 0 rfl
 have z0 := hq.lt
 have k1 := kalloc (Below.refl w.heap.size w) (.cells #[.func (.func G) #[] bs] 87)
 have B := Blk.new w #[.func (.func G) #[] bs] 87
 have K := hide (contains83 159 #[.pointer (some ⟨w.heap.size, 0, none⟩)] e1 (fun x => !p x) A c l _ (hS.bel k1) (fun x hx w' hb => by
  have hpx := hp x hx
  have h := not159 G bs hG (p x) x w.heap.size w' (B.bel hb) (fun w2 h2 => hpx w2 (kcall (kcall k1 hb) h2))
  exact h))
 have H := hide k1
 rw [any_notp] at K
 generalize l.all p = r at K ⊢
 clear hp hS hq B k1
 go_enter Tryz.func129, Tryz.ntmps129
 go_wp2
 refine wp_loop_rounds 2 ?_
 rw [rounds_succ]
 go_wp2_with fail
 refine K.out.mono ?_
 rintro e w1 ⟨rfl, hb⟩
 have HB := hide (kcall H.out hb)
 clear hb H K
 cases r
 ·go_wp2
  go_ret
  exact ⟨rfl, HB.out⟩
 ·go_wp2
  rw [rounds_succ]
  go_wp2
  go_ret
  exact ⟨rfl, HB.out⟩
set_option maxHeartbeats 1000000 in
theorem not163 (G : Nat) (bs : Array Value) (hG : ∀ args w, (callFunc G args).run Tryz.prog w = .ok (.enter G args) w) (r : Bool) (x : EntH) (q : Nat) (w : World) (hq : Blk w q 211 #[.func (.func G) #[] bs])
  (K : ∀ w', Below w.heap.size w w' → Calls Tryz.prog G (#[.agg #[.string x.text, .string x.cat, .int .i64 x.catNo, .slice x.gA x.gives.length x.gC, .int .i64 x.cost]] ++ bs) w' fun e w'' => e = .returned (.bool r) ∧ Below w'.heap.size w' w'') :
  Calls Tryz.prog 163 #[.agg #[.string x.text, .string x.cat, .int .i64 x.catNo, .slice x.gA x.gives.length x.gC, .int .i64 x.cost], .pointer (some ⟨q, 0, none⟩)] w fun e w' => e = .returned (.bool (!r)) ∧ Below w.heap.size w w' := by
 have y0 := hq.cell (v := .func (.func G) #[] bs) 0 rfl
 have z0 := hq.lt
 have k0 := Below.refl w.heap.size w
 have k1 := k0.alloc (Nat.le_refl _) (.cells #[.string x.text, .string x.cat, .int .i64 x.catNo, .slice x.gA x.gives.length x.gC, .int .i64 x.cost] 107)
 have K0 := hide (K _ k1)
 have H := hide k1
 clear K k0 k1 hq
 go_enter Tryz.func163, Tryz.ntmps163
 go_wp2_with fail
 refine K0.out.mono ?_
 rintro e w1 ⟨rfl, hb⟩
 have HB := hide (kcall H.out hb)
 clear hb H K0
 go_wp2
 go_ret
 exact ⟨rfl, HB.out⟩
set_option maxHeartbeats 1000000 in
theorem all133 (G : Nat) (bs : Array Value) (hG : ∀ args w, (callFunc G args).run Tryz.prog w = .ok (.enter G args) w) (p : EntH → Bool) (A : Option Addr) (c : Nat) (l : List EntH) (q : Nat) (w : World) (hS : Sl entC 5 w A c l)
  (hq : Blk w q 23 #[.slice A l.length c]) (hp : Pred Tryz.prog (entV) G bs p l w) :
  Calls Tryz.prog 133 #[.func (.func G) #[] bs, .slice (some ⟨q, 0, none⟩) 1 1] w fun e w' => e = .returned (.bool (l.all p)) ∧ Below w.heap.size w w' := by
 have e1 : ∀ args w, (callFunc 163 args).run Tryz.prog w = .ok (.enter 163 args) w := enters_of Tryz.func163 (by kernel_rfl) rfl
 have y0 := hq.cell (v := .slice A l.length c) 0 rfl
 have z0 := hq.lt
 have k1 := kalloc (Below.refl w.heap.size w) (.cells #[.func (.func G) #[] bs] 211)
 have B := Blk.new w #[.func (.func G) #[] bs] 211
 have K := hide (contains162 163 #[.pointer (some ⟨w.heap.size, 0, none⟩)] e1 (fun x => !p x) A c l _ (hS.bel k1) (fun x hx w' hb => by
  have hpx := hp x hx
  have h := not163 G bs hG (p x) x w.heap.size w' (B.bel hb) (fun w2 h2 => hpx w2 (kcall (kcall k1 hb) h2))
  exact h))
 have H := hide k1
 rw [any_notp] at K
 generalize l.all p = r at K ⊢
 clear hp hS hq B k1
 go_enter Tryz.func133, Tryz.ntmps133
 go_wp2
 refine wp_loop_rounds 2 ?_
 rw [rounds_succ]
 go_wp2_with fail
 refine K.out.mono ?_
 rintro e w1 ⟨rfl, hb⟩
 have HB := hide (kcall H.out hb)
 clear hb H K
 cases r
 ·go_wp2
  go_ret
  exact ⟨rfl, HB.out⟩
 ·go_wp2
  rw [rounds_succ]
  go_wp2
  go_ret
  exact ⟨rfl, HB.out⟩
set_option maxHeartbeats 1000000 in
theorem not161 (G : Nat) (bs : Array Value) (hG : ∀ args w, (callFunc G args).run Tryz.prog w = .ok (.enter G args) w) (r : Bool) (x : PartM) (q : Nat) (w : World) (hq : Blk w q 212 #[.func (.func G) #[] bs])
  (K : ∀ w', Below w.heap.size w w' → Calls Tryz.prog G (#[.agg #[.string x.cat, .int .i64 x.catNo, .string x.text]] ++ bs) w' fun e w'' => e = .returned (.bool r) ∧ Below w'.heap.size w' w'') :
  Calls Tryz.prog 161 #[.agg #[.string x.cat, .int .i64 x.catNo, .string x.text], .pointer (some ⟨q, 0, none⟩)] w fun e w' => e = .returned (.bool (!r)) ∧ Below w.heap.size w w' := by
 have y0 := hq.cell (v := .func (.func G) #[] bs) 0 rfl
 have z0 := hq.lt
 have k0 := Below.refl w.heap.size w
 have k1 := k0.alloc (Nat.le_refl _) (.cells #[.string x.cat, .int .i64 x.catNo, .string x.text] 125)
 have K0 := hide (K _ k1)
 have H := hide k1
 clear K k0 k1 hq
 go_enter Tryz.func161, Tryz.ntmps161
 go_wp2_with fail
 refine K0.out.mono ?_
 rintro e w1 ⟨rfl, hb⟩
 have HB := hide (kcall H.out hb)
 clear hb H K0
 go_wp2
 go_ret
 exact ⟨rfl, HB.out⟩
set_option maxHeartbeats 1000000 in
theorem all132 (G : Nat) (bs : Array Value) (hG : ∀ args w, (callFunc G args).run Tryz.prog w = .ok (.enter G args) w) (p : PartM → Bool) (A : Option Addr) (c : Nat) (l : List PartM) (q : Nat) (w : World) (hS : Sl partC 3 w A c l)
  (hq : Blk w q 108 #[.slice A l.length c]) (hp : Pred Tryz.prog (partV) G bs p l w) :
  Calls Tryz.prog 132 #[.func (.func G) #[] bs, .slice (some ⟨q, 0, none⟩) 1 1] w fun e w' => e = .returned (.bool (l.all p)) ∧ Below w.heap.size w w' := by
 have e1 : ∀ args w, (callFunc 161 args).run Tryz.prog w = .ok (.enter 161 args) w := enters_of Tryz.func161 (by kernel_rfl) rfl
 have y0 := hq.cell (v := .slice A l.length c) 0 rfl
 have z0 := hq.lt
 have k1 := kalloc (Below.refl w.heap.size w) (.cells #[.func (.func G) #[] bs] 212)
 have B := Blk.new w #[.func (.func G) #[] bs] 212
 have K := hide (contains160 161 #[.pointer (some ⟨w.heap.size, 0, none⟩)] e1 (fun x => !p x) A c l _ (hS.bel k1) (fun x hx w' hb => by
  have hpx := hp x hx
  have h := not161 G bs hG (p x) x w.heap.size w' (B.bel hb) (fun w2 h2 => hpx w2 (kcall (kcall k1 hb) h2))
  exact h))
 have H := hide k1
 rw [any_notp] at K
 generalize l.all p = r at K ⊢
 clear hp hS hq B k1
 go_enter Tryz.func132, Tryz.ntmps132
 go_wp2
 refine wp_loop_rounds 2 ?_
 rw [rounds_succ]
 go_wp2_with fail
 refine K.out.mono ?_
 rintro e w1 ⟨rfl, hb⟩
 have HB := hide (kcall H.out hb)
 clear hb H K
 cases r
 ·go_wp2
  go_ret
  exact ⟨rfl, HB.out⟩
 ·go_wp2
  rw [rounds_succ]
  go_wp2
  go_ret
  exact ⟨rfl, HB.out⟩
set_option maxHeartbeats 1000000 in
theorem not164 (G : Nat) (bs : Array Value) (hG : ∀ args w, (callFunc G args).run Tryz.prog w = .ok (.enter G args) w) (r : Bool) (x : RuleH) (q : Nat) (w : World) (hq : Blk w q 214 #[.func (.func G) #[] bs])
  (K : ∀ w', Below w.heap.size w w' → Calls Tryz.prog G (#[.agg #[.string x.cat, .int .i64 x.catNo, .slice x.pA x.parts.length x.pC, .slice x.gA x.gives.length x.gC, .int .i64 x.cost]] ++ bs) w' fun e w'' => e = .returned (.bool r) ∧ Below w'.heap.size w' w'') :
  Calls Tryz.prog 164 #[.agg #[.string x.cat, .int .i64 x.catNo, .slice x.pA x.parts.length x.pC, .slice x.gA x.gives.length x.gC, .int .i64 x.cost], .pointer (some ⟨q, 0, none⟩)] w fun e w' => e = .returned (.bool (!r)) ∧ Below w.heap.size w w' := by
 have y0 := hq.cell (v := .func (.func G) #[] bs) 0 rfl
 have z0 := hq.lt
 have k0 := Below.refl w.heap.size w
 have k1 := k0.alloc (Nat.le_refl _) (.cells #[.string x.cat, .int .i64 x.catNo, .slice x.pA x.parts.length x.pC, .slice x.gA x.gives.length x.gC, .int .i64 x.cost] 111)
 have K0 := hide (K _ k1)
 have H := hide k1
 clear K k0 k1 hq
 go_enter Tryz.func164, Tryz.ntmps164
 go_wp2_with fail
 refine K0.out.mono ?_
 rintro e w1 ⟨rfl, hb⟩
 have HB := hide (kcall H.out hb)
 clear hb H K0
 go_wp2
 go_ret
 exact ⟨rfl, HB.out⟩
set_option maxHeartbeats 1000000 in
theorem all134 (G : Nat) (bs : Array Value) (hG : ∀ args w, (callFunc G args).run Tryz.prog w = .ok (.enter G args) w) (p : RuleH → Bool) (A : Option Addr) (c : Nat) (l : List RuleH) (q : Nat) (w : World) (hS : Sl ruleC 5 w A c l)
  (hq : Blk w q 24 #[.slice A l.length c]) (hp : Pred Tryz.prog (ruleV) G bs p l w) :
  Calls Tryz.prog 134 #[.func (.func G) #[] bs, .slice (some ⟨q, 0, none⟩) 1 1] w fun e w' => e = .returned (.bool (l.all p)) ∧ Below w.heap.size w w' := by
 have e1 : ∀ args w, (callFunc 164 args).run Tryz.prog w = .ok (.enter 164 args) w := enters_of Tryz.func164 (by kernel_rfl) rfl
 have y0 := hq.cell (v := .slice A l.length c) 0 rfl
 have z0 := hq.lt
 have k1 := kalloc (Below.refl w.heap.size w) (.cells #[.func (.func G) #[] bs] 214)
 have B := Blk.new w #[.func (.func G) #[] bs] 214
 have K := hide (contains136 164 #[.pointer (some ⟨w.heap.size, 0, none⟩)] e1 (fun x => !p x) A c l _ (hS.bel k1) (fun x hx w' hb => by
  have hpx := hp x hx
  have h := not164 G bs hG (p x) x w.heap.size w' (B.bel hb) (fun w2 h2 => hpx w2 (kcall (kcall k1 hb) h2))
  exact h))
 have H := hide k1
 rw [any_notp] at K
 generalize l.all p = r at K ⊢
 clear hp hS hq B k1
 go_enter Tryz.func134, Tryz.ntmps134
 go_wp2
 refine wp_loop_rounds 2 ?_
 rw [rounds_succ]
 go_wp2_with fail
 refine K.out.mono ?_
 rintro e w1 ⟨rfl, hb⟩
 have HB := hide (kcall H.out hb)
 clear hb H K
 cases r
 ·go_wp2
  go_ret
  exact ⟨rfl, HB.out⟩
 ·go_wp2
  rw [rounds_succ]
  go_wp2
  go_ret
  exact ⟨rfl, HB.out⟩
end Go.Proofs.YtkfdafeonhnloaaGreatDoor
