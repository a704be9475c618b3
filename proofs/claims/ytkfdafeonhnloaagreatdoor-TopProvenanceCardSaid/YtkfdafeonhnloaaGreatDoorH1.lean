/-
 The references' Few: what is read of the answer.
-/
import Derived.Test.YtkfdafeonhnloaaGreatDoorA27
namespace Go.Mine.C
open Go.RowKit Go.Mine
def fewG (g : GramH) : Prop := g.entries.length ≤ 40 ∨ 512 < g.entries.length
end Go.Mine.C
namespace Go.Proofs.YtkfdafeonhnloaaGreatDoor
open Go.RowKit Go.Shelf Go.Mine Go.Mine.C
attribute [local go_sem] Oper.semAt_some
set_option maxRecDepth 100000 in
set_option maxHeartbeats 4000000 in
theorem few22 (g : GramH) (w : World) (hG : GramOk w g) : Calls Tryz.prog 22 #[gramV g] w fun e w' => (∃ b, e = .returned (.bool b) ∧ (b = true → fewG g)) ∧ Below w.heap.size w w' := by
 obtain ⟨W1, hW1⟩ : ∃ W1, W1 = w.alloc (.cells #[.string g.name, .slice g.cA g.cats.length g.cC, .string g.start, .int .i64 g.startNo, .slice g.eA g.entries.length g.eC, .slice g.rA g.rules.length g.rC] 26) := ⟨_, rfl⟩
 have hb : Below w.heap.size w W1 := by rw [hW1]; exact kalloc (Below.refl _ _) _
 have hB : Blk W1 w.heap.size 26 #[.string g.name, .slice g.cA g.cats.length g.cC, .string g.start, .int .i64 g.startNo, .slice g.eA g.entries.length g.eC, .slice g.rA g.rules.length g.rC] := by rw [hW1]; exact Blk.new w _ _
 have HE := hide (hG.entries.bel hb)
 have HR := hide (hG.rules.bel hb)
 have hele := hG.entries.le
 have hemx := hG.entries.max
 have hrle := hG.rules.le
 have hrmx := hG.rules.max
 have hcle := hG.cats.le
 have hcmx := hG.cats.max
 have HB := hide hb
 have HBX := hide hB
 have HFG := hide (show fewG g ↔ (g.entries.length ≤ 40 ∨ 512 < g.entries.length) from Iff.rfl)
 clear hb hB hG
 simp only [gramV]
 by_cases h1 : 40 < g.cats.length
 ·skip
  have q1 : decide ((40 : Int) < g.cats.length) = true := decide_eq_true (by omega)
  go_enter Tryz.func22, Tryz.ntmps22
  go_wp2
  go_ret
  exact ⟨⟨false, rfl, fun h => by cases h⟩, kalloc (Below.refl _ _) _⟩
 ·skip
  have q1 : decide ((40 : Int) < g.cats.length) = false := decide_eq_false (by omega)
  by_cases h2 : 40 < g.entries.length
  ·skip
   have q2 : decide ((40 : Int) < g.entries.length) = true := decide_eq_true (by omega)
   by_cases h3 : g.entries.length ≤ 512
   ·skip
    have q3 : decide ((g.entries.length : Int) ≤ 512) = true := decide_eq_true (by omega)
    go_enter Tryz.func22, Tryz.ntmps22
    go_wp2
    go_ret
    exact ⟨⟨false, rfl, fun h => by cases h⟩, kalloc (Below.refl _ _) _⟩
   ·skip
    have q3 : decide ((g.entries.length : Int) ≤ 512) = false := decide_eq_false (by omega)
    by_cases h4 : 600 < g.entries.length
    ·skip
     have q4 : decide ((600 : Int) < g.entries.length) = true := decide_eq_true (by omega)
     go_enter Tryz.func22, Tryz.ntmps22
     go_wp2
     go_ret
     exact ⟨⟨false, rfl, fun h => by cases h⟩, kalloc (Below.refl _ _) _⟩
    ·skip
     have q4 : decide ((600 : Int) < g.entries.length) = false := decide_eq_false (by omega)
     have hfew : g.entries.length ≤ 40 ∨ 512 < g.entries.length := by omega
     by_cases h5 : 20 < g.rules.length
     ·skip
      have q5 : decide ((20 : Int) < g.rules.length) = true := decide_eq_true (by omega)
      by_cases h6 : g.rules.length ≤ 128
      ·skip
       have q6 : decide ((g.rules.length : Int) ≤ 128) = true := decide_eq_true (by omega)
       go_enter Tryz.func22, Tryz.ntmps22
       go_wp2
       go_ret
       exact ⟨⟨false, rfl, fun h => by cases h⟩, kalloc (Below.refl _ _) _⟩
      ·skip
       have q6 : decide ((g.rules.length : Int) ≤ 128) = false := decide_eq_false (by omega)
       by_cases h7 : 200 < g.rules.length
       ·skip
        have q7 : decide ((200 : Int) < g.rules.length) = true := decide_eq_true (by omega)
        go_enter Tryz.func22, Tryz.ntmps22
        go_wp2
        go_ret
        exact ⟨⟨false, rfl, fun h => by cases h⟩, kalloc (Below.refl _ _) _⟩
       ·skip
        have q7 : decide ((200 : Int) < g.rules.length) = false := decide_eq_false (by omega)
        go_enter Tryz.func22, Tryz.ntmps22
        go_wp2_with fail
        rw [← hW1]
        clear hW1
        have c4 := HBX.out.cell (v := .slice g.eA g.entries.length g.eC) 4 rfl
        have c5 := HBX.out.cell (v := .slice g.rA g.rules.length g.rC) 5 rfl
        have cl := HBX.out.lt
        go_loopw [3] (fun iv wr => ∃ k : Nat, k ≤ g.entries.length ∧ iv = .int .i64 k ∧ W1 = wr) (fun iv _ => g.entries.length - (Go.Mine.nI iv).toNat)
        case atStart => exact ⟨0, Nat.zero_le _, rfl, rfl⟩
        case round =>
         obtain ⟨k, hk, rfl, rfl⟩ := hrel
         by_cases hlt : k < g.entries.length
         ·have z1 : decide ((k : Int) < g.entries.length) = true := decide_eq_true (by omega)
          obtain ⟨x, b, off, hx, _, hA, hbw, d0, d1, d2, d3, d4⟩ := ent_at HE.out hlt
          rw [hA] at c4
          by_cases hq : 10 < x.gives.length
          ·have z2 : decide ((10 : Int) < x.gives.length) = true := decide_eq_true (by omega)
           go_wp2
           go_ret
           exact ⟨⟨false, rfl, fun h => by cases h⟩, HB.out⟩
          ·have z2 : decide ((10 : Int) < x.gives.length) = false := decide_eq_false (by omega)
           go_wp2
           go_roundw
           case rel => exact ⟨k + 1, by omega, by go_num, trivial⟩
           case measure => simp [Go.Mine.nI]; omega
         ·obtain rfl : k = g.entries.length := by omega
          go_wp2_with fail
          go_loopw [4] (fun iv wr => ∃ k : Nat, k ≤ g.rules.length ∧ iv = .int .i64 k ∧ W1 = wr) (fun iv _ => g.rules.length - (Go.Mine.nI iv).toNat)
          case atStart => exact ⟨0, Nat.zero_le _, rfl, rfl⟩
          case round =>
           obtain ⟨k, hk, rfl, rfl⟩ := hrel
           by_cases hlt : k < g.rules.length
           ·have z1 : decide ((k : Int) < g.rules.length) = true := decide_eq_true (by omega)
            obtain ⟨x, b, off, hx, _, hA, hbw, d0, d1, d2, d3, d4⟩ := rule_at HR.out hlt
            rw [hA] at c5
            by_cases hq : 10 < x.parts.length
            ·have z2 : decide ((10 : Int) < x.parts.length) = true := decide_eq_true (by omega)
             go_wp2
             go_ret
             exact ⟨⟨false, rfl, fun h => by cases h⟩, HB.out⟩
            ·have z2 : decide ((10 : Int) < x.parts.length) = false := decide_eq_false (by omega)
             by_cases hq2 : 20 < x.gives.length
             ·have z3 : decide ((20 : Int) < x.gives.length) = true := decide_eq_true (by omega)
              go_wp2
              go_ret
              exact ⟨⟨false, rfl, fun h => by cases h⟩, HB.out⟩
             ·have z3 : decide ((20 : Int) < x.gives.length) = false := decide_eq_false (by omega)
              go_wp2
              go_roundw
              case rel => exact ⟨k + 1, by omega, by go_num, trivial⟩
              case measure => simp [Go.Mine.nI]; omega
           ·obtain rfl : k = g.rules.length := by omega
            have z1 : decide ((g.rules.length : Int) < g.rules.length) = false := decide_eq_false (by omega)
            go_wp2
            go_ret
            exact ⟨⟨true, rfl, fun _ => HFG.out.2 hfew⟩, HB.out⟩
     ·skip
      have q5 : decide ((20 : Int) < g.rules.length) = false := decide_eq_false (by omega)
      have q7 : decide ((200 : Int) < g.rules.length) = false := decide_eq_false (by omega)
      go_enter Tryz.func22, Tryz.ntmps22
      go_wp2_with fail
      rw [← hW1]
      clear hW1
      have c4 := HBX.out.cell (v := .slice g.eA g.entries.length g.eC) 4 rfl
      have c5 := HBX.out.cell (v := .slice g.rA g.rules.length g.rC) 5 rfl
      have cl := HBX.out.lt
      go_loopw [3] (fun iv wr => ∃ k : Nat, k ≤ g.entries.length ∧ iv = .int .i64 k ∧ W1 = wr) (fun iv _ => g.entries.length - (Go.Mine.nI iv).toNat)
      case atStart => exact ⟨0, Nat.zero_le _, rfl, rfl⟩
      case round =>
       obtain ⟨k, hk, rfl, rfl⟩ := hrel
       by_cases hlt : k < g.entries.length
       ·have z1 : decide ((k : Int) < g.entries.length) = true := decide_eq_true (by omega)
        obtain ⟨x, b, off, hx, _, hA, hbw, d0, d1, d2, d3, d4⟩ := ent_at HE.out hlt
        rw [hA] at c4
        by_cases hq : 10 < x.gives.length
        ·have z2 : decide ((10 : Int) < x.gives.length) = true := decide_eq_true (by omega)
         go_wp2
         go_ret
         exact ⟨⟨false, rfl, fun h => by cases h⟩, HB.out⟩
        ·have z2 : decide ((10 : Int) < x.gives.length) = false := decide_eq_false (by omega)
         go_wp2
         go_roundw
         case rel => exact ⟨k + 1, by omega, by go_num, trivial⟩
         case measure => simp [Go.Mine.nI]; omega
       ·obtain rfl : k = g.entries.length := by omega
        go_wp2_with fail
        go_loopw [4] (fun iv wr => ∃ k : Nat, k ≤ g.rules.length ∧ iv = .int .i64 k ∧ W1 = wr) (fun iv _ => g.rules.length - (Go.Mine.nI iv).toNat)
        case atStart => exact ⟨0, Nat.zero_le _, rfl, rfl⟩
        case round =>
         obtain ⟨k, hk, rfl, rfl⟩ := hrel
         by_cases hlt : k < g.rules.length
         ·have z1 : decide ((k : Int) < g.rules.length) = true := decide_eq_true (by omega)
          obtain ⟨x, b, off, hx, _, hA, hbw, d0, d1, d2, d3, d4⟩ := rule_at HR.out hlt
          rw [hA] at c5
          by_cases hq : 10 < x.parts.length
          ·have z2 : decide ((10 : Int) < x.parts.length) = true := decide_eq_true (by omega)
           go_wp2
           go_ret
           exact ⟨⟨false, rfl, fun h => by cases h⟩, HB.out⟩
          ·have z2 : decide ((10 : Int) < x.parts.length) = false := decide_eq_false (by omega)
           by_cases hq2 : 20 < x.gives.length
           ·have z3 : decide ((20 : Int) < x.gives.length) = true := decide_eq_true (by omega)
            go_wp2
            go_ret
            exact ⟨⟨false, rfl, fun h => by cases h⟩, HB.out⟩
           ·have z3 : decide ((20 : Int) < x.gives.length) = false := decide_eq_false (by omega)
            go_wp2
            go_roundw
            case rel => exact ⟨k + 1, by omega, by go_num, trivial⟩
            case measure => simp [Go.Mine.nI]; omega
         ·obtain rfl : k = g.rules.length := by omega
          have z1 : decide ((g.rules.length : Int) < g.rules.length) = false := decide_eq_false (by omega)
          go_wp2
          go_ret
          exact ⟨⟨true, rfl, fun _ => HFG.out.2 hfew⟩, HB.out⟩
  ·skip
   have q2 : decide ((40 : Int) < g.entries.length) = false := decide_eq_false (by omega)
   have q4 : decide ((600 : Int) < g.entries.length) = false := decide_eq_false (by omega)
   have hfew : g.entries.length ≤ 40 ∨ 512 < g.entries.length := by omega
   by_cases h5 : 20 < g.rules.length
   ·skip
    have q5 : decide ((20 : Int) < g.rules.length) = true := decide_eq_true (by omega)
    by_cases h6 : g.rules.length ≤ 128
    ·skip
     have q6 : decide ((g.rules.length : Int) ≤ 128) = true := decide_eq_true (by omega)
     go_enter Tryz.func22, Tryz.ntmps22
     go_wp2
     go_ret
     exact ⟨⟨false, rfl, fun h => by cases h⟩, kalloc (Below.refl _ _) _⟩
    ·skip
     have q6 : decide ((g.rules.length : Int) ≤ 128) = false := decide_eq_false (by omega)
     by_cases h7 : 200 < g.rules.length
     ·skip
      have q7 : decide ((200 : Int) < g.rules.length) = true := decide_eq_true (by omega)
      go_enter Tryz.func22, Tryz.ntmps22
      go_wp2
      go_ret
      exact ⟨⟨false, rfl, fun h => by cases h⟩, kalloc (Below.refl _ _) _⟩
     ·skip
      have q7 : decide ((200 : Int) < g.rules.length) = false := decide_eq_false (by omega)
      go_enter Tryz.func22, Tryz.ntmps22
      go_wp2_with fail
      rw [← hW1]
      clear hW1
      have c4 := HBX.out.cell (v := .slice g.eA g.entries.length g.eC) 4 rfl
      have c5 := HBX.out.cell (v := .slice g.rA g.rules.length g.rC) 5 rfl
      have cl := HBX.out.lt
      go_loopw [3] (fun iv wr => ∃ k : Nat, k ≤ g.entries.length ∧ iv = .int .i64 k ∧ W1 = wr) (fun iv _ => g.entries.length - (Go.Mine.nI iv).toNat)
      case atStart => exact ⟨0, Nat.zero_le _, rfl, rfl⟩
      case round =>
       obtain ⟨k, hk, rfl, rfl⟩ := hrel
       by_cases hlt : k < g.entries.length
       ·have z1 : decide ((k : Int) < g.entries.length) = true := decide_eq_true (by omega)
        obtain ⟨x, b, off, hx, _, hA, hbw, d0, d1, d2, d3, d4⟩ := ent_at HE.out hlt
        rw [hA] at c4
        by_cases hq : 10 < x.gives.length
        ·have z2 : decide ((10 : Int) < x.gives.length) = true := decide_eq_true (by omega)
         go_wp2
         go_ret
         exact ⟨⟨false, rfl, fun h => by cases h⟩, HB.out⟩
        ·have z2 : decide ((10 : Int) < x.gives.length) = false := decide_eq_false (by omega)
         go_wp2
         go_roundw
         case rel => exact ⟨k + 1, by omega, by go_num, trivial⟩
         case measure => simp [Go.Mine.nI]; omega
       ·obtain rfl : k = g.entries.length := by omega
        go_wp2_with fail
        go_loopw [4] (fun iv wr => ∃ k : Nat, k ≤ g.rules.length ∧ iv = .int .i64 k ∧ W1 = wr) (fun iv _ => g.rules.length - (Go.Mine.nI iv).toNat)
        case atStart => exact ⟨0, Nat.zero_le _, rfl, rfl⟩
        case round =>
         obtain ⟨k, hk, rfl, rfl⟩ := hrel
         by_cases hlt : k < g.rules.length
         ·have z1 : decide ((k : Int) < g.rules.length) = true := decide_eq_true (by omega)
          obtain ⟨x, b, off, hx, _, hA, hbw, d0, d1, d2, d3, d4⟩ := rule_at HR.out hlt
          rw [hA] at c5
          by_cases hq : 10 < x.parts.length
          ·have z2 : decide ((10 : Int) < x.parts.length) = true := decide_eq_true (by omega)
           go_wp2
           go_ret
           exact ⟨⟨false, rfl, fun h => by cases h⟩, HB.out⟩
          ·have z2 : decide ((10 : Int) < x.parts.length) = false := decide_eq_false (by omega)
           by_cases hq2 : 20 < x.gives.length
           ·have z3 : decide ((20 : Int) < x.gives.length) = true := decide_eq_true (by omega)
            go_wp2
            go_ret
            exact ⟨⟨false, rfl, fun h => by cases h⟩, HB.out⟩
           ·have z3 : decide ((20 : Int) < x.gives.length) = false := decide_eq_false (by omega)
            go_wp2
            go_roundw
            case rel => exact ⟨k + 1, by omega, by go_num, trivial⟩
            case measure => simp [Go.Mine.nI]; omega
         ·obtain rfl : k = g.rules.length := by omega
          have z1 : decide ((g.rules.length : Int) < g.rules.length) = false := decide_eq_false (by omega)
          go_wp2
          go_ret
          exact ⟨⟨true, rfl, fun _ => HFG.out.2 hfew⟩, HB.out⟩
   ·skip
    have q5 : decide ((20 : Int) < g.rules.length) = false := decide_eq_false (by omega)
    have q7 : decide ((200 : Int) < g.rules.length) = false := decide_eq_false (by omega)
    go_enter Tryz.func22, Tryz.ntmps22
    go_wp2_with fail
    rw [← hW1]
    clear hW1
    have c4 := HBX.out.cell (v := .slice g.eA g.entries.length g.eC) 4 rfl
    have c5 := HBX.out.cell (v := .slice g.rA g.rules.length g.rC) 5 rfl
    have cl := HBX.out.lt
    go_loopw [3] (fun iv wr => ∃ k : Nat, k ≤ g.entries.length ∧ iv = .int .i64 k ∧ W1 = wr) (fun iv _ => g.entries.length - (Go.Mine.nI iv).toNat)
    case atStart => exact ⟨0, Nat.zero_le _, rfl, rfl⟩
    case round =>
     obtain ⟨k, hk, rfl, rfl⟩ := hrel
     by_cases hlt : k < g.entries.length
     ·have z1 : decide ((k : Int) < g.entries.length) = true := decide_eq_true (by omega)
      obtain ⟨x, b, off, hx, _, hA, hbw, d0, d1, d2, d3, d4⟩ := ent_at HE.out hlt
      rw [hA] at c4
      by_cases hq : 10 < x.gives.length
      ·have z2 : decide ((10 : Int) < x.gives.length) = true := decide_eq_true (by omega)
       go_wp2
       go_ret
       exact ⟨⟨false, rfl, fun h => by cases h⟩, HB.out⟩
      ·have z2 : decide ((10 : Int) < x.gives.length) = false := decide_eq_false (by omega)
       go_wp2
       go_roundw
       case rel => exact ⟨k + 1, by omega, by go_num, trivial⟩
       case measure => simp [Go.Mine.nI]; omega
     ·obtain rfl : k = g.entries.length := by omega
      go_wp2_with fail
      go_loopw [4] (fun iv wr => ∃ k : Nat, k ≤ g.rules.length ∧ iv = .int .i64 k ∧ W1 = wr) (fun iv _ => g.rules.length - (Go.Mine.nI iv).toNat)
      case atStart => exact ⟨0, Nat.zero_le _, rfl, rfl⟩
      case round =>
       obtain ⟨k, hk, rfl, rfl⟩ := hrel
       by_cases hlt : k < g.rules.length
       ·have z1 : decide ((k : Int) < g.rules.length) = true := decide_eq_true (by omega)
        obtain ⟨x, b, off, hx, _, hA, hbw, d0, d1, d2, d3, d4⟩ := rule_at HR.out hlt
        rw [hA] at c5
        by_cases hq : 10 < x.parts.length
        ·have z2 : decide ((10 : Int) < x.parts.length) = true := decide_eq_true (by omega)
         go_wp2
         go_ret
         exact ⟨⟨false, rfl, fun h => by cases h⟩, HB.out⟩
        ·have z2 : decide ((10 : Int) < x.parts.length) = false := decide_eq_false (by omega)
         by_cases hq2 : 20 < x.gives.length
         ·have z3 : decide ((20 : Int) < x.gives.length) = true := decide_eq_true (by omega)
          go_wp2
          go_ret
          exact ⟨⟨false, rfl, fun h => by cases h⟩, HB.out⟩
         ·have z3 : decide ((20 : Int) < x.gives.length) = false := decide_eq_false (by omega)
          go_wp2
          go_roundw
          case rel => exact ⟨k + 1, by omega, by go_num, trivial⟩
          case measure => simp [Go.Mine.nI]; omega
       ·obtain rfl : k = g.rules.length := by omega
        have z1 : decide ((g.rules.length : Int) < g.rules.length) = false := decide_eq_false (by omega)
        go_wp2
        go_ret
        exact ⟨⟨true, rfl, fun _ => HFG.out.2 hfew⟩, HB.out⟩
set_option maxHeartbeats 4000000 in
theorem few23 (A : Option Addr) (n c : Nat) (w : World) (hn : n ≤ c) (hc : c ≤ 9223372036854775807) : Calls Tryz.prog 23 #[.slice A n c] w fun e w' => (∃ b, e = .returned (.bool b)) ∧ w = w' := by
 by_cases h1 : n ≤ 30
 ·have q1 : decide ((n : Int) ≤ 30) = true := decide_eq_true (by omega)
  go_enter Tryz.func23, Tryz.ntmps23
  go_wp2
  go_ret
  exact ⟨⟨_, rfl⟩, rfl⟩
 ·have q1 : decide ((n : Int) ≤ 30) = false := decide_eq_false (by omega)
  by_cases h2 : 1024 < n
  ·have q2 : decide ((1024 : Int) < n) = true := decide_eq_true (by omega)
   go_enter Tryz.func23, Tryz.ntmps23
   go_wp2
   go_ret
   exact ⟨⟨_, rfl⟩, rfl⟩
  ·have q2 : decide ((1024 : Int) < n) = false := decide_eq_false (by omega)
   go_enter Tryz.func23, Tryz.ntmps23
   go_wp2
   go_ret
   exact ⟨⟨_, rfl⟩, rfl⟩
set_option maxRecDepth 100000 in
set_option maxHeartbeats 4000000 in
theorem few5 (g : GramH) (lA : Option Addr) (ln lC : Nat) (wA : Option Addr) (wC : Nat) (words : List ByteArray) (w : World) (hG : GramOk w g) (hl : ln ≤ lC) (hlm : lC ≤ 9223372036854775807) (hw : Sl sc 1 w wA wC words) :
  Calls Tryz.prog 5 #[gramV g, .slice lA ln lC, .slice wA words.length wC] w fun e w' => (∃ b, e = .returned (.bool b) ∧ (b = true → fewG g)) ∧ Below w.heap.size w w' := by
 obtain ⟨W1, hW1⟩ : ∃ W1, W1 = w.alloc (.cells #[.string g.name, .slice g.cA g.cats.length g.cC, .string g.start, .int .i64 g.startNo, .slice g.eA g.entries.length g.eC, .slice g.rA g.rules.length g.rC] 26) := ⟨_, rfl⟩
 have hb : Below w.heap.size w W1 := by rw [hW1]; exact kalloc (Below.refl _ _) _
 have K22 := few22 g W1 (hG.bel hb)
 simp only [gramV] at K22 ⊢
 replace K22 := hide K22
 have K23 := hide (fun w => few23 lA ln lC w hl hlm)
 have HB := hide hb
 have HW := hide hw
 have hwle := hw.le
 have hwmx := hw.max
 clear hb hw hG
 go_enter Tryz.func5, Tryz.ntmps5
 go_wp2_with fail
 rw [← hW1]
 refine K22.out.mono ?_
 rintro e W2 ⟨⟨b, rfl, hbf⟩, hb2⟩
 have HB2 := hide (kcall HB.out hb2)
 have HBF := hide hbf
 clear hb2 hbf K22 hW1 HB
 cases b
 ·go_wp2
  go_ret
  exact ⟨⟨false, rfl, fun h => by cases h⟩, HB2.out⟩
 ·go_wp2_with fail
  refine (K23.out _).mono ?_
  rintro e W3 ⟨⟨b, rfl⟩, rfl⟩
  cases b
  ·go_wp2
   go_ret
   exact ⟨⟨false, rfl, fun h => by cases h⟩, HB2.out⟩
  ·by_cases h1 : 30 < words.length
   ·have q1 : decide ((30 : Int) < words.length) = true := decide_eq_true (by omega)
    go_wp2
    go_ret
    exact ⟨⟨false, rfl, fun h => by cases h⟩, HB2.out⟩
   ·have q1 : decide ((30 : Int) < words.length) = false := decide_eq_false (by omega)
    go_wp2
    go_loopw [7] (fun iv wr => ∃ k : Nat, k ≤ words.length ∧ iv = .int .i64 k ∧ W2 = wr) (fun iv _ => words.length - (Go.Mine.nI iv).toNat)
    case atStart => exact ⟨0, Nat.zero_le _, rfl, rfl⟩
    case round =>
     obtain ⟨k, hk, rfl, rfl⟩ := hrel
     by_cases hlt : k < words.length
     ·have z1 : decide ((k : Int) < words.length) = true := decide_eq_true (by omega)
      obtain ⟨u, b, off, hu, _, rfl, hbw, d0⟩ := Sl.sc_at (HW.out.bel HB2.out) hlt
      have hus : u.size ≤ 9223372036854775807 ∨ 9223372036854775807 < u.size := by omega
      by_cases hq : 100 < u.size
      ·have z2 : decide ((100 : Int) < u.size) = true := decide_eq_true (by omega)
       go_wp2
       go_ret
       exact ⟨⟨false, rfl, fun h => by cases h⟩, HB2.out⟩
      ·have z2 : decide ((100 : Int) < u.size) = false := decide_eq_false (by omega)
       go_wp2
       go_roundw
       case rel => exact ⟨k + 1, by omega, by go_num, trivial⟩
       case measure => simp [Go.Mine.nI]; omega
     ·obtain rfl : k = words.length := by omega
      go_wp2
      go_ret
      exact ⟨⟨true, rfl, fun _ => HBF.out trivial⟩, HB2.out⟩
end Go.Proofs.YtkfdafeonhnloaaGreatDoor
