/-
  provenance.Then, Reach.
-/
import Derived.Test.YtlobgdnhmhdhbaaPThen
namespace Go.Proofs.Ytlobgdnhmhdhbaa
open Go.RowKit Go.Shelf Go.Mine

theorem Try_info31 : (Try.prog.info? 31).map (fun i => (i.zero, i.size, i.bytes)) = some (some (.slice none 0 0), 1, 24) := by kernel_rfl
theorem Try_info3 : (Try.prog.info? 3).map (fun i => (i.zero, i.size, i.bytes)) = some (some (.int .i64 0), 1, 8) := by kernel_rfl
theorem own_types {α β : Type} {f : α → List Value} {f' : β → List Value} {sz sz' : Nat} {e e' : TypeId} {w : World} {base base' : Nat} {v v' : Value} {l : List α} {l' : List β} (h : OwnL f sz e w base v l) (h' : OwnL f' sz' e' w base' v' l') (hne : e ≠ e') :
    ∀ g, v.ownBlock = some g → some g ≠ v'.ownBlock := fun g hg hg' => by
  obtain ⟨_, _, cur, h1⟩ := h.blk hg
  obtain ⟨_, _, cur', h2⟩ := h'.blk hg'.symm
  rw [h1] at h2
  simp at h2
  exact hne h2.2
/-- a row of rows, all of the call's own -/
structure OwnR (w : World) (base : Nat) (v : Value) (es : List Hd) : Prop where
  own : OwnL hc 1 31 w base v es
  rows : ∀ e ∈ es, OwnL ic 1 3 w base (hv e) e.2.2
theorem OwnR.rel {w : World} {base : Nat} {v : Value} {es : List Hd} (h : OwnR w base v es) : ∃ A c, v = .slice A (es.map fun e => e.2.2).length c ∧ Rel w A c (es.map fun e => e.2.2) := by
  obtain ⟨A, c, rfl, hS⟩ := h.own.sl
  refine ⟨A, c, by simp, es, rfl, hS, fun e he => ?_⟩
  obtain ⟨B, d, hb, hS2⟩ := (h.rows e he).sl
  simp only [hv, Value.slice.injEq] at hb
  obtain ⟨rfl, -, rfl⟩ := hb
  exact hS2
theorem OwnR.bel {w w' : World} {base : Nat} {v : Value} {es : List Hd} (h : OwnR w base v es) (hb : Below w.heap.size w w') : OwnR w' base v es := ⟨h.own.bel hb, fun e he => (h.rows e he).bel hb⟩
theorem OwnR.push {w w' : World} {base : Nat} {v v' : Value} {es : List Hd} {x : Hd} (h : OwnR w base v es) (hx : OwnL ic 1 3 w base (hv x) x.2.2) (ho : OwnL hc 1 31 w' base v' (es ++ [x])) (hg : w.grownBy w' v.ownBlock) : OwnR w' base v' (es ++ [x]) :=
  ⟨ho, fun e he => by
    rcases List.mem_append.1 he with he | he
    · exact (h.rows e he).grown hg (own_types (h.rows e he) h.own (by decide))
    · simp at he; subst he; exact hx.grown hg (own_types hx h.own (by decide))⟩
set_option maxHeartbeats 4000000 in
theorem then11_any (A B : Option Addr) (c d : Nat) (r s : List (List Int)) (n : Int) (w : World) (hR : Rel w A c r) (hS : Rel w B d s) :
    Calls Try.prog 11 #[.slice A r.length c, .slice B s.length d, .int .i64 n] w fun e w' => ∃ A2 c2, e = .returned (.tuple #[.slice A2 (P.thenL r s n).length c2, .int .i64 (P.thenE r s n)]) ∧ Rel w' A2 c2 (P.thenL r s n) ∧ Below w.heap.size w w' := by
  have a1 := hR.le
  have a2 := hR.max
  have a3 := hS.le
  have a4 := hS.max
  have KC := hide (check13_any A c r n w hR)
  have KD := hide (fun w (hS : Rel w B d s) => check13_any B d s r.length w hS)
  by_cases hz : P.chk r n = 0
  · by_cases hy : P.chk s r.length = 0
    · have he : P.thenE r s n = 0 := P.thenE_zero.2 ⟨hz, hy⟩
      have K24 := hide (fun B d l w => lists24_any A B c d r l w)
      have KU := hide (fun (w w' : World) (B : Option Addr) (d : Nat) (l : List Int) (hl : l ∈ s) (hR : Rel w A c r) (hL : Sl ic 1 w B d l) (h0 : Blk w' w.heap.size 22 #[.slice A r.length c]) (h1 : Blk w' (w.heap.size + 1) 31 #[.slice B l.length d]) (hb : Below w.heap.size w w') => by
        obtain ⟨es, e1, e2, e3⟩ := hR
        have K := un23_any w w' A B c d r n es l e1 (by exact e2) e3 hL hz ((P.chk_zero.1 hy).2.2.2 l hl) h0 h1 hb
        exact K)
      have hsl := (P.chk_zero.1 hy).1
      obtain ⟨i0, hi, hz0, hz1, hz2⟩ := info_parts Try_info31
      have HI := hide hi
      rw [he, P.thenL_ok he]
      rw [hz] at KC
      rw [hy] at KD
      generalize P.allL r n = U at KU ⊢
      clear hz hy he hi
      go_enter Try.func11, Try.ntmps11
      go_wp2_with fail
      refine (KC.out).mono ?_
      rintro e w1 ⟨rfl, hb⟩
      replace hR := hR.bel hb
      replace hS := hS.bel hb
      have hB1 := hb
      clear hb KC
      go_wp2_with fail
      refine (KD.out _ hS).mono ?_
      rintro e w2 ⟨rfl, hb⟩
      have hB2 := hide (kcall hB1 hb)
      replace hR := hide (hR.bel hb)
      replace hS := hS.bel hb
      clear hb KD hB1
      go_wp2
      go_loopw [6, 25] (fun v i wr => ∃ (k : Nat) (es : List Hd), k ≤ s.length ∧ i = .int .i64 k ∧ es.map (fun e => e.2.2) = (s.take k).map U ∧ OwnR wr w2.heap.size v es ∧ Below w2.heap.size w2 wr) (fun _ i _ => s.length - (nI i).toNat)
      case atStart => exact ⟨0, [], Nat.zero_le _, rfl, rfl, ⟨OwnL.nil _ _ _ _ _, by simp⟩, Below.refl _ _⟩
      case round =>
        obtain ⟨k, es, hk, rfl, hes, hO, hb⟩ := hrel
        have hN := hb.size
        by_cases hlt : k < s.length
        · obtain ⟨l, bb, off, B2, d2, hx, hdr, rfl, hbw, c1, hL⟩ := (hS.bel hb).at_ hlt
          have hlm := List.mem_of_getElem? hx
          have e1 := hide (show (es.map (fun e => e.2.2)) ++ [U l] = (s.take (k + 1)).map U by rw [hes, take_of_get hx]; simp)
          have hel : es.length ≤ 4096 := by
            have := congrArg List.length hes
            simp only [List.length_map, List.length_take] at this
            omega
          have HO := hide hO
          have HL := hide hL
          clear hdr hx hS hes hO hL
          go_wp2_with fail
          refine (K24.out B2 d2 l _).mono ?_
          rintro e w3 ⟨rfl, h0, h1, hb3, hs3⟩
          have KU2 := hide (KU.out _ _ B2 d2 l hlm (hR.out.bel hb) HL.out h0 h1 hb3)
          have hB3 := kcall hb hb3
          have HO3 := hide (HO.out.bel hb3)
          clear hb3 h0 h1 KU K24 HL HO hb c1 hbw
          go_wp2_with fail
          refine (KU2.out).mono ?_
          rintro e w4 ⟨v', rfl, hO4, hb4⟩
          have hB4 := hide (kcall hB3 hb4)
          have HO5 := hide (HO3.out.bel hb4)
          obtain ⟨A3, c3, rfl, -⟩ := hO4.sl
          have HU := hide (hO4.mono hB3.size)
          have hN4 := hB4.out.size
          clear hb4 hO4 KU2 HO3 hB3
          go_wp2_with (at_builtin; refine wpList_push (f := hc) (y := ((A3, c3, U l) : Hd)) (l := es) rfl (.tmp 29) (.tmp 34) 22 rfl Try.underlying22 HI.out hz0 hz1 hz2 rfl (by decide) rfl (HO5.out.own.alloc _) rfl (heap_new _ _) rfl rfl ?_ ?_ ?_ ?_ ?_)
          · simp [Value.oneCell', hc]
          · simp only [maxLen]; omega
          · omega
          · first | omega | (simp; omega)
          · intro v6 w6 hO6 hgr hat
            have R6 := hide (OwnR.push (x := (A3, c3, U l)) (HO5.out.bel ((Below.refl _ _).alloc (Nat.le_refl _) (Obj.cells #[.slice A3 (U l).length c3] 31))) (HU.out.alloc _) hO6 hgr)
            have hb6 := hide (Below.grown (hB4.out.alloc hN4 (Obj.cells #[.slice A3 (U l).length c3] 31)) hgr (by simp; omega) (fun g hg => (HO5.out.own.blk hg).1))
            clear hO6 hgr hat HU HO5
            go_wp2
            go_roundw
            case rel => exact ⟨k + 1, es ++ [(A3, c3, U l)], by omega, by go_num, by rw [← e1.out]; simp, R6.out, hb6.out⟩
            case measure => simp [nI]; omega
        · obtain rfl : k = s.length := by omega
          rw [List.take_length] at hes
          obtain ⟨A2, c2, rfl, hRl⟩ := hO.rel
          rw [hes] at hRl ⊢
          have HR := hide hRl
          have hB := hide (kcall hB2.out hb)
          clear hO hRl hS hes
          go_wp2
          go_ret2
          exact ⟨A2, c2, rfl, HR.out, hB.out⟩
    · have he : P.thenE r s n = P.chk s r.length := by unfold P.thenE; rw [if_pos hz]
      rw [P.thenL_bad (by rw [he]; exact hy), he]
      rw [hz] at KC
      generalize P.chk s r.length = e0 at KD hy ⊢
      clear hz he
      go_enter Try.func11, Try.ntmps11
      go_wp2_with fail
      refine (KC.out).mono ?_
      rintro e w1 ⟨rfl, hb⟩
      have hB1 := hb
      replace hS := hS.bel hb
      clear hb KC
      go_wp2_with fail
      refine (KD.out _ hS).mono ?_
      rintro e w2 ⟨rfl, hb⟩
      have hB2 := kcall hB1 hb
      go_wp2
      go_ret2
      exact ⟨none, 0, rfl, Rel.nil (by omega), hB2⟩
  · have he : P.thenE r s n = P.chk r n := by unfold P.thenE; rw [if_neg hz]
    rw [P.thenL_bad (by rw [he]; exact hz), he]
    generalize P.chk r n = e0 at KC hz ⊢
    clear he
    go_enter Try.func11, Try.ntmps11
    go_wp2_with fail
    refine (KC.out).mono ?_
    rintro e w1 ⟨rfl, hb⟩
    go_wp2
    go_ret2
    exact ⟨none, 0, rfl, Rel.nil (by omega), hb⟩
end Go.Proofs.Ytlobgdnhmhdhbaa
