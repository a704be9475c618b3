/-
  provenance.Back, Then.
  provenance.Then, Reach.
  provenance.Reach.
-/
import Derived.Test.YtkfdafeonhnloaaGreatDoorGM28
namespace Go.Proofs.YtkfdafeonhnloaaGreatDoor.Pv
open Go.Proofs.YtkfdafeonhnloaaGreatDoor
open Go.RowKit Go.Shelf Go.Mine

theorem named_mem {es : List Hd} {l : List Int} (hl : ∀ i ∈ l, 0 ≤ i ∧ i < es.length) {e : Hd} : e ∈ named es l ↔ ∃ i ∈ l, e = es.getD i.toNat default := by
 unfold named
 rw [List.mem_map]
 constructor
 ·rintro ⟨i, hi, rfl⟩; exact ⟨i, hi, rfl⟩
 ·rintro ⟨i, hi, rfl⟩; exact ⟨i, hi, rfl⟩
theorem named_in {es : List Hd} {l : List Int} (hl : ∀ i ∈ l, 0 ≤ i ∧ i < es.length) {e : Hd} (h : e ∈ named es l) : e ∈ es := by
 obtain ⟨i, hi, rfl⟩ := (named_mem hl).1 h
 have := hl i hi
 rw [List.getD_eq_getElem?_getD, List.getElem?_eq_getElem (by omega)]
 simp
theorem row_named {es : List Hd} {i : Int} (h : 0 ≤ i ∧ i < es.length) : P.row (es.map fun e => e.2.2) i = (es.getD i.toNat default).2.2 := by
 unfold P.row
 rw [List.getD_eq_getElem?_getD, List.getD_eq_getElem?_getD, List.getElem?_map, List.getElem?_eq_getElem (by omega)]
 rfl
theorem total_le {B : Nat} : ∀ (hs : List Hd), (∀ e ∈ hs, e.2.2.length ≤ B) → total hs ≤ hs.length * B
 | [], _ => by simp [total]
 | e :: r, h => by
  have h1 := total_le r (fun x hx => h x (by simp [hx]))
  have h2 := h e (by simp)
  have e1 : total (e :: r) = e.2.2.length + total r := by simp [total]
  rw [e1, List.length_cons, Nat.succ_mul]
  omega
theorem un23_any (w w' : World) (A B : Option Addr) (c d : Nat) (r : List (List Int)) (n : Int) (es : List Hd) (l : List Int) (he : es.map (fun e => e.2.2) = r) (hE : Sl hc 1 w A c es) (hS : ∀ e ∈ es, Sl ic 1 w e.1 e.2.1 e.2.2) (hL : Sl ic 1 w B d l)
  (hz : P.chk r n = 0) (hl : P.below l r.length = true) (h0 : Blk w' w.heap.size 32 #[.slice A r.length c]) (h1 : Blk w' (w.heap.size + 1) 31 #[.slice B l.length d]) (hb : Below w.heap.size w w') :
  Calls Tryz.prog 26 #[.func (.func 60) #[] #[.pointer (some ⟨w.heap.size + 1, 0, none⟩), .pointer (some ⟨w.heap.size, 0, none⟩)]] w' fun e w'' => ∃ v, e = .returned v ∧ OwnL ic 1 3 w'' w'.heap.size v (P.allL r n l) ∧ Below w'.heap.size w' w'' := by
 have hlen : es.length = r.length := by rw [← he]; simp
 obtain ⟨z1, z2, z3, z4⟩ := P.chk_zero.1 hz
 obtain ⟨l1, l2⟩ := (P.below_iff _ _).1 hl
 have hlb : ∀ i ∈ l, 0 ≤ i ∧ i < es.length := fun i hi => by have := l1 i hi; omega
 have hin : ∀ e ∈ es, P.below e.2.2 n = true := fun e hem => z4 _ (by rw [← he]; exact List.mem_map.2 ⟨e, hem, rfl⟩)
 have hi64 : ∀ e ∈ es, ∀ y ∈ e.2.2, I64 y := fun e hem y hy => by
  have := ((P.below_iff _ _).1 (hin e hem)).1 y hy
  exact ⟨by omega, by omega⟩
 have hit := lists33_iter w w' A B c d es l hE hL hb w.heap.size (Nat.le_refl _) (by rw [hlen]; exact h0.cell 0 rfl) (h1.cell 0 rfl) (by have := h1.lt; omega) hlb
 have htot : total (named es l) ≤ 1000000000 := by
  have h1 := total_le (B := 4096) (named es l) (fun e hem => P.below_le (hin e (named_in hlb hem)) z3)
  have h2 : (named es l).length ≤ 4096 := by simp only [named, List.length_map]; exact P.below_le hl (by omega)
  have h3 : (named es l).length * 4096 ≤ 4096 * 4096 := Nat.mul_le_mul_right _ h2
  omega
 refine (union23_any w' _ (named es l) _ hit (fun b hb' => by have := h1.lt; have := hb.size; omega) (fun e hem => ⟨(hS e (named_in hlb hem)).bel hb, hi64 e (named_in hlb hem)⟩) htot).mono ?_
 rintro e w'' ⟨v, L, rfl, q1, q2, q3, q4⟩
 have hLe : L = P.allL r n l := by
  refine P.sorted_eq q1 ((P.below_iff _ _).1 (P.allL_below _ _ _)).2 fun k => ?_
  rw [q2, P.mem_allL]
  constructor
  ·rintro ⟨e, hem, hk⟩
   have hk2 := ((P.below_iff _ _).1 (hin e (named_in hlb hem))).1 k hk
   obtain ⟨i, hi, rfl⟩ := (named_mem hlb).1 hem
   exact ⟨hk2, i, hi, by rw [← he, row_named (hlb i hi)]; exact hk⟩
  ·rintro ⟨_, i, hi, hk⟩
   exact ⟨_, (named_mem hlb).2 ⟨i, hi, rfl⟩, by rw [← he, row_named (hlb i hi)] at hk; exact hk⟩
 subst hLe
 exact ⟨v, rfl, q3, q4⟩
set_option maxHeartbeats 2000000 in
theorem back18_any (A B : Option Addr) (c d : Nat) (r : List (List Int)) (n : Int) (l : List Int) (w : World) (hR : Rel w A c r) (hL : Sl ic 1 w B d l) :
  Calls Tryz.prog 8 #[.slice A r.length c, .int .i64 n, .slice B l.length d] w fun e w' => ∃ v, e = .returned (.tuple #[v, .int .i64 (P.argE r n r.length l)]) ∧ OwnL ic 1 3 w' w.heap.size v (P.backL r n l) ∧ Below w.heap.size w w' := by
 have a1 := hR.le
 have a2 := hR.max
 have a3 := hL.le
 have a4 := hL.max
 have KC := hide (check13_any A c r n w hR)
 have KB := hide (fun w (hL : Sl ic 1 w B d l) => below27_any B d l r.length w hL)
 by_cases hz : P.chk r n = 0
 ·by_cases hl : P.below l r.length = true
  ·have he : P.argE r n r.length l = 0 := P.argE_zero.2 ⟨hz, hl⟩
   have K24 := hide (fun w => lists24_any A B c d r l w)
   have KU := hide (fun (w w' : World) (hR : Rel w A c r) (hL : Sl ic 1 w B d l) (h0 : Blk w' w.heap.size 32 #[.slice A r.length c]) (h1 : Blk w' (w.heap.size + 1) 31 #[.slice B l.length d]) (hb : Below w.heap.size w w') => by
    obtain ⟨es, e1, e2, e3⟩ := hR
    have K := un23_any w w' A B c d r n es l e1 (by exact e2) e3 hL hz hl h0 h1 hb
    exact K)
   rw [he, P.backL_ok he]
   rw [hz] at KC
   rw [hl] at KB
   generalize P.allL r n l = U at KU ⊢
   clear hz hl he
   go_enter Tryz.func8, Tryz.ntmps8
   go_wp2_with fail
   refine (KC.out).mono ?_
   rintro e w1 ⟨rfl, hb⟩
   replace hR := hR.bel hb
   replace hL := hL.bel hb
   have hB1 := hb
   clear hb KC
   go_wp2_with fail
   refine (KB.out _ hL).mono ?_
   rintro e w' ⟨rfl, rfl⟩
   go_wp2_with fail
   refine (K24.out _).mono ?_
   rintro e w2 ⟨rfl, h0, h1, hb, hs2⟩
   have hB2 := kcall hB1 hb
   have KU2 := hide (KU.out _ _ hR hL h0 h1 hb)
   clear hb h0 h1 KU K24 KB
   go_wp2_with fail
   refine (KU2.out).mono ?_
   rintro e w3 ⟨v, rfl, hO, hb⟩
   have hB3 := hide (kcall hB2 hb)
   have hO3 := hide (hO.mono hB2.size)
   clear hb hO KU2
   go_wp2
   go_ret2
   exact ⟨v, rfl, hO3.out, hB3.out⟩
  ·have he : P.argE r n r.length l = 1 := by unfold P.argE; rw [if_pos hz, if_neg hl]
   rw [he, P.backL_bad (by rw [he]; decide)]
   rw [hz] at KC
   rw [show P.below l r.length = false by simpa using hl] at KB
   clear hz hl he
   go_enter Tryz.func8, Tryz.ntmps8
   go_wp2_with fail
   refine (KC.out).mono ?_
   rintro e w1 ⟨rfl, hb⟩
   replace hL := hL.bel hb
   clear KC
   go_wp2_with fail
   refine (KB.out _ hL).mono ?_
   rintro e w' ⟨rfl, rfl⟩
   go_wp2
   go_ret2
   exact ⟨_, rfl, OwnL.nil _ _ _ _ _, hb⟩
 ·have he : P.argE r n r.length l = P.chk r n := by unfold P.argE; rw [if_neg hz]
  rw [P.backL_bad (by rw [he]; exact hz), he]
  generalize P.chk r n = e0 at KC hz ⊢
  clear he
  go_enter Tryz.func8, Tryz.ntmps8
  go_wp2_with fail
  refine (KC.out).mono ?_
  rintro e w1 ⟨rfl, hb⟩
  go_wp2
  go_ret2
  exact ⟨_, rfl, OwnL.nil _ _ _ _ _, hb⟩

theorem Try_info31 : (Tryz.prog.info? 31).map (fun i => (i.zero, i.size, i.bytes)) = some (some (.slice none 0 0), 1, 24) := by kernel_rfl
theorem Try_info3 : (Tryz.prog.info? 3).map (fun i => (i.zero, i.size, i.bytes)) = some (some (.int .i64 0), 1, 8) := by kernel_rfl
theorem own_types {α β : Type} {f : α → List Value} {f' : β → List Value} {sz sz' : Nat} {e e' : TypeId} {w : World} {base base' : Nat} {v v' : Value} {l : List α} {l' : List β} (h : OwnL f sz e w base v l) (h' : OwnL f' sz' e' w base' v' l') (hne : e ≠ e') :
  ∀ g, v.ownBlock = some g → some g ≠ v'.ownBlock := fun g hg hg' => by
 obtain ⟨_, _, cur, h1⟩ := h.blk hg
 obtain ⟨_, _, cur', h2⟩ := h'.blk hg'.symm
 rw [h1] at h2
 simp at h2
 exact hne h2.2
structure OwnR (w : World) (base : Nat) (v : Value) (es : List Hd) : Prop where
 own : OwnL hc 1 31 w base v es
 rows : ∀ e ∈ es, OwnL ic 1 3 w base (hv e) e.2.2
theorem OwnR.rel {w : World} {base : Nat} {v : Value} {es : List Hd} (h : OwnR w base v es) : ∃ A c, v = .slice A (es.map fun e => e.2.2).length c ∧ Rel w A c (es.map fun e => e.2.2) := by
 obtain ⟨A, c, rfl, hS⟩ := h.own.sl
 refine ⟨A, c, by simp, es, rfl, hS, fun e he => ?_⟩
 obtain ⟨B, d, hb, hS2⟩ := (h.rows e he).sl
 simp only [hv, Value.slice.injEq] at hb
 obtain ⟨rfl, -, rfl⟩ := hb
 exact hS2
theorem OwnR.bel {w w' : World} {base : Nat} {v : Value} {es : List Hd} (h : OwnR w base v es) (hb : Below w.heap.size w w') : OwnR w' base v es := ⟨h.own.bel hb, fun e he => (h.rows e he).bel hb⟩
theorem OwnR.push {w w' : World} {base : Nat} {v v' : Value} {es : List Hd} {x : Hd} (h : OwnR w base v es) (hx : OwnL ic 1 3 w base (hv x) x.2.2) (ho : OwnL hc 1 31 w' base v' (es ++ [x])) (hg : w.grownBy w' v.ownBlock) : OwnR w' base v' (es ++ [x]) :=
 ⟨ho, fun e he => by
  rcases List.mem_append.1 he with he | he
  ·exact (h.rows e he).grown hg (own_types (h.rows e he) h.own (by decide))
  ·simp at he; subst he; exact hx.grown hg (own_types hx h.own (by decide))⟩
set_option maxHeartbeats 4000000 in
theorem then11_any (A B : Option Addr) (c d : Nat) (r s : List (List Int)) (n : Int) (w : World) (hR : Rel w A c r) (hS : Rel w B d s) :
  Calls Tryz.prog 12 #[.slice A r.length c, .slice B s.length d, .int .i64 n] w fun e w' => ∃ A2 c2, e = .returned (.tuple #[.slice A2 (P.thenL r s n).length c2, .int .i64 (P.thenE r s n)]) ∧ Rel w' A2 c2 (P.thenL r s n) ∧ Below w.heap.size w w' := by
 have a1 := hR.le
 have a2 := hR.max
 have a3 := hS.le
 have a4 := hS.max
 have KC := hide (check13_any A c r n w hR)
 have KD := hide (fun w (hS : Rel w B d s) => check13_any B d s r.length w hS)
 by_cases hz : P.chk r n = 0
 ·by_cases hy : P.chk s r.length = 0
  ·have he : P.thenE r s n = 0 := P.thenE_zero.2 ⟨hz, hy⟩
   have K24 := hide (fun B d l w => lists24_any A B c d r l w)
   have KU := hide (fun (w w' : World) (B : Option Addr) (d : Nat) (l : List Int) (hl : l ∈ s) (hR : Rel w A c r) (hL : Sl ic 1 w B d l) (h0 : Blk w' w.heap.size 32 #[.slice A r.length c]) (h1 : Blk w' (w.heap.size + 1) 31 #[.slice B l.length d]) (hb : Below w.heap.size w w') => by
    obtain ⟨es, e1, e2, e3⟩ := hR
    have K := un23_any w w' A B c d r n es l e1 (by exact e2) e3 hL hz ((P.chk_zero.1 hy).2.2.2 l hl) h0 h1 hb
    exact K)
   have hsl := (P.chk_zero.1 hy).1
   obtain ⟨i0, hi, hz0, hz1, hz2⟩ := info_parts Try_info31
   have HI := hide hi
   rw [he, P.thenL_ok he]
   rw [hz] at KC
   rw [hy] at KD
   generalize P.allL r n = U at KU ⊢
   clear hz hy he hi
   go_enter Tryz.func12, Tryz.ntmps12
   go_wp2_with fail
   refine (KC.out).mono ?_
   rintro e w1 ⟨rfl, hb⟩
   replace hR := hR.bel hb
   replace hS := hS.bel hb
   have hB1 := hb
   clear hb KC
   go_wp2_with fail
   refine (KD.out _ hS).mono ?_
   rintro e w2 ⟨rfl, hb⟩
   have hB2 := hide (kcall hB1 hb)
   replace hR := hide (hR.bel hb)
   replace hS := hS.bel hb
   clear hb KD hB1
   go_wp2
   go_loopw [6, 25] (fun v i wr => ∃ (k : Nat) (es : List Hd), k ≤ s.length ∧ i = .int .i64 k ∧ es.map (fun e => e.2.2) = (s.take k).map U ∧ OwnR wr w2.heap.size v es ∧ Below w2.heap.size w2 wr) (fun _ i _ => s.length - (nI i).toNat)
   case atStart => exact ⟨0, [], Nat.zero_le _, rfl, rfl, ⟨OwnL.nil _ _ _ _ _, by simp⟩, Below.refl _ _⟩
   case round =>
    obtain ⟨k, es, hk, rfl, hes, hO, hb⟩ := hrel
    have hN := hb.size
    by_cases hlt : k < s.length
    ·obtain ⟨l, bb, off, B2, d2, hx, hdr, rfl, hbw, c1, hL⟩ := (hS.bel hb).at_ hlt
     have hlm := List.mem_of_getElem? hx
     have e1 := hide (show (es.map (fun e => e.2.2)) ++ [U l] = (s.take (k + 1)).map U by rw [hes, take_of_get hx]; simp)
     have hel : es.length ≤ 4096 := by
      have := congrArg List.length hes
      simp only [List.length_map, List.length_take] at this
      omega
     have HO := hide hO
     have HL := hide hL
     clear hdr hx hS hes hO hL
     go_wp2_with fail
     refine (K24.out B2 d2 l _).mono ?_
     rintro e w3 ⟨rfl, h0, h1, hb3, hs3⟩
     have KU2 := hide (KU.out _ _ B2 d2 l hlm (hR.out.bel hb) HL.out h0 h1 hb3)
     have hB3 := kcall hb hb3
     have HO3 := hide (HO.out.bel hb3)
     clear hb3 h0 h1 KU K24 HL HO hb c1 hbw
     go_wp2_with fail
     refine (KU2.out).mono ?_
     rintro e w4 ⟨v', rfl, hO4, hb4⟩
     have hB4 := hide (kcall hB3 hb4)
     have HO5 := hide (HO3.out.bel hb4)
     obtain ⟨A3, c3, rfl, -⟩ := hO4.sl
     have HU := hide (hO4.mono hB3.size)
     have hN4 := hB4.out.size
     clear hb4 hO4 KU2 HO3 hB3
     go_wp2_with (at_builtin; refine wpList_push (f := hc) (y := ((A3, c3, U l) : Hd)) (l := es) rfl (.tmp 29) (.tmp 34) 32 rfl Tryz.underlying32 HI.out hz0 hz1 hz2 rfl (by decide) rfl (HO5.out.own.alloc _) rfl (heap_new _ _) rfl rfl ?_ ?_ ?_ ?_ ?_)
     ·simp [Value.oneCell', hc]
     ·simp only [maxLen]; omega
     ·omega
     ·first | omega | (simp; omega)
     ·intro v6 w6 hO6 hgr hat
      have R6 := hide (OwnR.push (x := (A3, c3, U l)) (HO5.out.bel ((Below.refl _ _).alloc (Nat.le_refl _) (Obj.cells #[.slice A3 (U l).length c3] 31))) (HU.out.alloc _) hO6 hgr)
      have hb6 := hide (Below.grown (hB4.out.alloc hN4 (Obj.cells #[.slice A3 (U l).length c3] 31)) hgr (by simp; omega) (fun g hg => (HO5.out.own.blk hg).1))
      clear hO6 hgr hat HU HO5
      go_wp2
      go_roundw
      case rel => exact ⟨k + 1, es ++ [(A3, c3, U l)], by omega, by go_num, by rw [← e1.out]; simp, R6.out, hb6.out⟩
      case measure => simp [nI]; omega
    ·obtain rfl : k = s.length := by omega
     rw [List.take_length] at hes
     obtain ⟨A2, c2, rfl, hRl⟩ := hO.rel
     rw [hes] at hRl ⊢
     have HR := hide hRl
     have hB := hide (kcall hB2.out hb)
     clear hO hRl hS hes
     go_wp2
     go_ret2
     exact ⟨A2, c2, rfl, HR.out, hB.out⟩
  ·have he : P.thenE r s n = P.chk s r.length := by unfold P.thenE; rw [if_pos hz]
   rw [P.thenL_bad (by rw [he]; exact hy), he]
   rw [hz] at KC
   generalize P.chk s r.length = e0 at KD hy ⊢
   clear hz he
   go_enter Tryz.func12, Tryz.ntmps12
   go_wp2_with fail
   refine (KC.out).mono ?_
   rintro e w1 ⟨rfl, hb⟩
   have hB1 := hb
   replace hS := hS.bel hb
   clear hb KC
   go_wp2_with fail
   refine (KD.out _ hS).mono ?_
   rintro e w2 ⟨rfl, hb⟩
   have hB2 := kcall hB1 hb
   go_wp2
   go_ret2
   exact ⟨none, 0, rfl, Rel.nil (by omega), hB2⟩
 ·have he : P.thenE r s n = P.chk r n := by unfold P.thenE; rw [if_neg hz]
  rw [P.thenL_bad (by rw [he]; exact hz), he]
  generalize P.chk r n = e0 at KC hz ⊢
  clear he
  go_enter Tryz.func12, Tryz.ntmps12
  go_wp2_with fail
  refine (KC.out).mono ?_
  rintro e w1 ⟨rfl, hb⟩
  go_wp2
  go_ret2
  exact ⟨none, 0, rfl, Rel.nil (by omega), hb⟩

theorem reach_next {r : List (List Int)} {src x : List Int} {k : Nat} (hx : r[k]? = some x) :
  (P.rng ((k + 1 : Nat) : Int)).filter (fun i => P.meets src (P.row r i)) = (P.rng k).filter (fun i => P.meets src (P.row r i)) ++ (if P.meets src x = true then [(k : Int)] else []) := by
 rw [Int.natCast_succ, P.rng_succ, List.filter_append]
 congr 1
 have : P.row r k = x := by unfold P.row; rw [List.getD_eq_getElem?_getD, Int.toNat_natCast, hx]; rfl
 rw [List.filter_cons, List.filter_nil, this]
set_option maxHeartbeats 4000000 in
theorem reach16_any (A B : Option Addr) (c d : Nat) (r : List (List Int)) (n : Int) (src : List Int) (w : World) (hR : Rel w A c r) (hL : Sl ic 1 w B d src) :
  Calls Tryz.prog 9 #[.slice A r.length c, .int .i64 n, .slice B src.length d] w fun e w' => ∃ v, e = .returned (.tuple #[v, .int .i64 (P.argE r n n src)]) ∧ OwnL ic 1 3 w' w.heap.size v (P.reachL r n src) ∧ Below w.heap.size w w' := by
 have a1 := hR.le
 have a2 := hR.max
 have a3 := hL.le
 have a4 := hL.max
 have KC := hide (check13_any A c r n w hR)
 have KB := hide (fun w (hL : Sl ic 1 w B d src) => below27_any B d src n w hL)
 by_cases hz : P.chk r n = 0
 ·by_cases hl : P.below src n = true
  ·have he : P.argE r n n src = 0 := P.argE_zero.2 ⟨hz, hl⟩
   obtain ⟨z1, z2, z3, z4⟩ := P.chk_zero.1 hz
   have hsl : src.length ≤ 4096 := P.below_le hl z3
   have hs64 : ∀ y ∈ src, I64 y := fun y hy => by have := ((P.below_iff _ _).1 hl).1 y hy; exact ⟨by omega, by omega⟩
   have hr64 : ∀ x ∈ r, ∀ y ∈ x, I64 y := fun x hx y hy => by have := ((P.below_iff _ _).1 (z4 x hx)).1 y hy; exact ⟨by omega, by omega⟩
   obtain ⟨i0, hi, hz0, hz1, hz2⟩ := info_parts Try_info3
   have HI := hide hi
   have KA := hide (fun b w (hM : MapI Tryz.prog 3 w b 0 (setM [])) (hL : Sl ic 1 w B d src) => add29_any b 0 [] B d src w hM hL hs64 (by omega))
   have HR64 := hide hr64
   have hmm := @run_makeMap Tryz.prog
   rw [he, P.reachL_ok he]
   rw [hz] at KC
   rw [hl] at KB
   clear hz hl he hi z2 z3 z4 hs64 hr64
   go_enter Tryz.func9, Tryz.ntmps9
   go_wp2_with fail
   refine (KC.out).mono ?_
   rintro e w1 ⟨rfl, hb⟩
   replace hR := hR.bel hb
   replace hL := hL.bel hb
   have hB1 := hb
   clear hb KC
   go_wp2_with fail
   refine (KB.out _ hL).mono ?_
   rintro e w' ⟨rfl, rfl⟩
   go_wp2_with fail
   have hM0 : MapI Tryz.prog 3 ((w1.alloc (.map #[] 0)).alloc (.cells #[.map (some w1.heap.size)] 74)) w1.heap.size 0 (setM []) := by rw [setM_nil]; exact (MapI.made _ _ _).alloc _
   refine (KA.out _ _ hM0 ((hL.alloc _).alloc _)).mono ?_
   rintro e w2 ⟨rfl, hM, hg⟩
   have hb2 : Below w1.heap.size w1 w2 := Below.grown (kalloc (kalloc (Below.refl _ _) _) _) hg (by simp; omega) (fun g hg => by obtain rfl := Option.some.inj hg; exact Nat.le_refl _)
   have hP := (Blk.new1 w1 (.map #[] 0) #[.map (some w1.heap.size)] 74).grown hg (by intro e; have := Option.some.inj e; omega)
   have hB2 := hide (kcall hB1 hb2)
   replace hR := hide (hR.bel hb2)
   have hgs := hg.size
   simp only [World.size_alloc] at hgs
   have HM := hide hM
   have HP := hide hP
   clear hb2 hg hM hP KA KB hmm hM0 hL hB1
   go_wp2
   go_loopw [6, 27] (fun v i wr => ∃ k : Nat, k ≤ r.length ∧ i = .int .i64 k ∧ OwnL ic 1 3 wr w2.heap.size v ((P.rng k).filter (fun i => P.meets src (P.row r i))) ∧ Below w2.heap.size w2 wr) (fun _ i _ => r.length - (nI i).toNat)
   case atStart => exact ⟨0, Nat.zero_le _, rfl, OwnL.nil _ _ _ _ _, Below.refl _ _⟩
   case round =>
    obtain ⟨k, hk, rfl, hO, hb⟩ := hrel
    have hN := hb.size
    by_cases hlt : k < r.length
    ·obtain ⟨x, bb, off, B2, d2, hx, hdr, rfl, hbw, c1, hX⟩ := (hR.out.bel hb).at_ hlt
     have K30 := hide (contains30_any B2 d2 x (w1.heap.size + 1) w1.heap.size _ src wr hX (HR64.out x (List.mem_of_getElem? hx)) (HP.out.bel hb) (HM.out.bel hb))
     have e1 := hide (reach_next (src := src) hx)
     have hll : ((P.rng k).filter (fun i => P.meets src (P.row r i))).length ≤ 4096 := by
      have := List.length_filter_le (fun i => P.meets src (P.row r i)) (P.rng k)
      rw [P.rng_length] at this
      omega
     have HO := hide hO
     try simp only [List.nil_append] at K30
     generalize (P.rng k).filter (fun i => P.meets src (P.row r i)) = La at *
     generalize P.meets src x = v at K30 e1
     clear hdr hx hO hX HR64
     cases v
     ·go_wp2_with fail
      refine (K30.out).mono ?_
      rintro e w' ⟨rfl, rfl⟩
      go_wp2
      go_roundw
      case rel => exact ⟨k + 1, by omega, by go_num, by rw [e1.out]; simpa using HO.out, hb⟩
      case measure => simp [nI]; omega
     ·go_wp2_with fail
      refine (K30.out).mono ?_
      rintro e w' ⟨rfl, rfl⟩
      go_wp2_with (at_builtin; refine wpList_push (f := ic) (y := (k : Int)) (l := La) rfl (.tmp 35) (.tmp 37) 31 rfl Tryz.underlying31 HI.out hz0 hz1 hz2 rfl (by decide) rfl (HO.out.alloc _) rfl (heap_new _ _) rfl rfl ?_ ?_ ?_ ?_ ?_)
      ·simp [Value.oneCell', ic]
      ·simp only [maxLen]; omega
      ·omega
      ·first | omega | (simp; omega)
      ·intro v6 w6 hO6 hgr hat
       have H6 := hide hO6
       have hb6 := hide (Below.grown (hb.alloc hN (Obj.cells #[.int .i64 k] 3)) hgr (by simp; omega) (fun g hg => (HO.out.blk hg).1))
       clear hO6 hgr hat
       go_wp2
       go_roundw
       case rel => exact ⟨k + 1, by omega, by go_num, by rw [e1.out]; simpa using H6.out, hb6.out⟩
       case measure => simp [nI]; omega
    ·obtain rfl : k = r.length := by omega
     have HO := hide (hO.mono hB2.out.size)
     have hB := hide (kcall hB2.out hb)
     obtain ⟨A2, c2, rfl, -⟩ := hO.sl
     clear hO
     go_wp2
     go_ret2
     exact ⟨_, rfl, HO.out, hB.out⟩
  ·have he : P.argE r n n src = 1 := by unfold P.argE; rw [if_pos hz, if_neg hl]
   rw [he, P.reachL_bad (by rw [he]; decide)]
   rw [hz] at KC
   rw [show P.below src n = false by simpa using hl] at KB
   clear hz hl he
   go_enter Tryz.func9, Tryz.ntmps9
   go_wp2_with fail
   refine (KC.out).mono ?_
   rintro e w1 ⟨rfl, hb⟩
   replace hL := hL.bel hb
   clear KC
   go_wp2_with fail
   refine (KB.out _ hL).mono ?_
   rintro e w' ⟨rfl, rfl⟩
   go_wp2
   go_ret2
   exact ⟨_, rfl, OwnL.nil _ _ _ _ _, hb⟩
 ·have he : P.argE r n n src = P.chk r n := by unfold P.argE; rw [if_neg hz]
  rw [P.reachL_bad (by rw [he]; exact hz), he]
  generalize P.chk r n = e0 at KC hz ⊢
  clear he
  go_enter Tryz.func9, Tryz.ntmps9
  go_wp2_with fail
  refine (KC.out).mono ?_
  rintro e w1 ⟨rfl, hb⟩
  go_wp2
  go_ret2
  exact ⟨_, rfl, OwnL.nil _ _ _ _ _, hb⟩
end Go.Proofs.YtkfdafeonhnloaaGreatDoor.Pv
