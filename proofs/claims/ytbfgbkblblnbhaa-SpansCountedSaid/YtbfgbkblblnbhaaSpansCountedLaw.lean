/-
  SpansCounted: its walk: true, whatever the input.
-/
import Derived.Test.YtbfgbkblblnbhaaSRight
import Derived.Test.YtbfgbkblblnbhaaSPure5
namespace Go.Proofs.Ytbfgbkblblnbhaa
open Go.RowKit Go.Mine Go.Mine.H Go.Mine.S

theorem five_at {w : World} {A1 A2 A3 A4 A5 : Option Addr} {c1 c2 c3 c4 c5 : Nat} {l1 l2 l3 l4 l5 : List Sp}
    (h1 : Sl bc 2 w A1 c1 l1) (h2 : Sl bc 2 w A2 c2 l2) (h3 : Sl bc 2 w A3 c3 l3) (h4 : Sl bc 2 w A4 c4 l4) (h5 : Sl bc 2 w A5 c5 l5) (k : Nat) (l : List Sp) (hk : [l1, l2, l3, l4, l5][k]? = some l) :
    ∃ A c, #[Value.slice A1 l1.length c1, .slice A2 l2.length c2, .slice A3 l3.length c3, .slice A4 l4.length c4, .slice A5 l5.length c5][k]? = some (.slice A l.length c) ∧ Sl bc 2 w A c l := by
  match k, hk with
  | 0, hk => simp at hk; subst hk; exact ⟨A1, c1, rfl, h1⟩
  | 1, hk => simp at hk; subst hk; exact ⟨A2, c2, rfl, h2⟩
  | 2, hk => simp at hk; subst hk; exact ⟨A3, c3, rfl, h3⟩
  | 3, hk => simp at hk; subst hk; exact ⟨A4, c4, rfl, h4⟩
  | 4, hk => simp at hk; subst hk; exact ⟨A5, c5, rfl, h5⟩
  | k + 5, hk => simp at hk
theorem five_all {l1 l2 l3 l4 l5 : List Sp} {p : List Sp → Prop} (h1 : p l1) (h2 : p l2) (h3 : p l3) (h4 : p l4) (h5 : p l5) (k : Nat) (l : List Sp) (hk : [l1, l2, l3, l4, l5][k]? = some l) : p l := by
  match k, hk with
  | 0, hk => simp at hk; subst hk; exact h1
  | 1, hk => simp at hk; subst hk; exact h2
  | 2, hk => simp at hk; subst hk; exact h3
  | 3, hk => simp at hk; subst hk; exact h4
  | 4, hk => simp at hk; subst hk; exact h5
  | k + 5, hk => simp at hk
/-- cells that hold the totals of the first lists -/
structure Cnt (ls : List (List Sp)) (k : Nat) (cs : Array Value) : Prop where
  size : cs.size = 5
  int : ∀ j, j < 5 → ∃ n, cs[j]? = some (.int .i64 n)
  done : ∀ j l, j < k → ls[j]? = some l → cs[j]? = some (.int .i64 (tot l))
theorem Cnt.zero (ls : List (List Sp)) : Cnt ls 0 #[.int .i64 0, .int .i64 0, .int .i64 0, .int .i64 0, .int .i64 0] :=
  ⟨rfl, fun j hj => by match j, hj with | 0, _ => exact ⟨0, rfl⟩ | 1, _ => exact ⟨0, rfl⟩ | 2, _ => exact ⟨0, rfl⟩ | 3, _ => exact ⟨0, rfl⟩ | 4, _ => exact ⟨0, rfl⟩, fun j l hj => by omega⟩
theorem Cnt.next {ls : List (List Sp)} {k : Nat} {cs : Array Value} {l : List Sp} (h : Cnt ls k cs) (hk : k < 5) (hl : ls[k]? = some l) : Cnt ls (k + 1) (cs.setIfInBounds k (.int .i64 (tot l))) := by
  refine ⟨by simp [h.size], fun j hj => ?_, fun j l' hj hl' => ?_⟩
  · by_cases e : k = j
    · subst e; exact ⟨tot l, by simp [h.size, hk]⟩
    · obtain ⟨n, hn⟩ := h.int j hj
      exact ⟨n, by rw [Array.getElem?_setIfInBounds_ne e]; exact hn⟩
  · by_cases e : k = j
    · subst e
      rw [hl] at hl'
      injection hl' with hl'
      subst hl'
      simp [h.size, hk]
    · rw [Array.getElem?_setIfInBounds_ne e]
      exact h.done j l' (by omega) hl'

set_option maxHeartbeats 4000000 in
theorem spansCounted_law (A A2 : Option Addr) (c c2 : Nat) (a b : List Sp) (w : World) (hSa : Sl bc 2 w A c a) (hSb : Sl bc 2 w A2 c2 b) :
    Calls Try.prog 11 #[.slice A a.length c, .slice A2 b.length c2] w fun e w' => e = .returned (.bool true) ∧ Below w.heap.size w w' := by
  have K29 := hide sane13_any
  have K44 := hide (fun b2 w (hL : SlSl w b2 2 [a, b]) => right13_any b2 2 [a, b] w hL (by simp))
  have hla := hSa.le
  have hlb := hSb.le
  have hca := hSa.max
  have hcb := hSb.max
  have hB0 := Below.refl w.heap.size w
  cases hr : [a, b].all rgt
  · rw [hr] at K44
    clear hr
    go_enter Try.func11, Try.ntmps11
    go_wp2_with fail
    refine (K29.out _).mono ?_
    rintro e w1 ⟨rfl, hb⟩
    have hB1 := kcall hB0 hb
    replace hSa := hSa.bel hb
    replace hSb := hSb.bel hb
    clear hb
    go_wp2_with fail
    refine (K44.out _ _ (slsl_two (Blk.new _ _ 30) (hSa.alloc _) (hSb.alloc _))).mono ?_
    rintro e w2 ⟨rfl, hb⟩
    have hB2 := kcall (kalloc hB1 _) hb
    clear hb
    go_wp2
    go_ret
    exact ⟨rfl, hB2⟩
  rw [hr] at K44
  obtain ⟨l1, l2, za, zb⟩ := rgt_two hr
  have ga := (chkS_good za).1
  have gb := (chkS_good zb).1
  clear hr
  have hl : a.length + b.length ≤ 4096 := by omega
  have K37 := hide (fun w (hSa : Sl bc 2 w A c a) (hSb : Sl bc 2 w A2 c2 b) => s37_any A A2 c c2 a b w hSa hSb (fun _ => hl))
  rw [(uniR_is (f := fOr) za zb).1, (uniR_is (f := fOr) za zb).2] at K37
  have zu := chk_uni (f := fOr) rfl za zb hl
  have tu := tot_le (uni_good (f := fOr) rfl ga gb)
  have K39 := hide (fun w (hSa : Sl bc 2 w A c a) (hSb : Sl bc 2 w A2 c2 b) => s39_any A A2 c c2 a b w hSa hSb (fun _ => hl))
  rw [(uniR_is (f := fAnd) za zb).1, (uniR_is (f := fAnd) za zb).2] at K39
  have zm := chk_uni (f := fAnd) rfl za zb hl
  have tm := tot_le (uni_good (f := fAnd) rfl ga gb)
  have K41 := hide (fun w (hSa : Sl bc 2 w A c a) (hSb : Sl bc 2 w A2 c2 b) => s41_any A A2 c c2 a b w hSa hSb (fun _ => hl))
  rw [(uniR_is (f := fNot) za zb).1, (uniR_is (f := fNot) za zb).2] at K41
  have zd := chk_uni (f := fNot) rfl za zb hl
  have td := tot_le (uni_good (f := fNot) rfl ga gb)
  have ta := tot_le ga
  have tb := tot_le gb
  have e1 := tot_or ga gb
  have e2 := tot_minus ga gb
  generalize uni fOr a b = u at K37 zu tu e1 e2
  generalize uni fAnd a b = m at K39 zm tm e1 e2
  generalize uni fNot a b = d at K41 zd td e1 e2
  have K33 := hide (fun A c l w (hS : Sl bc 2 w A c l) => sTotal_any A c l w hS)
  have F := hide (fun k l hk => five_all (p := fun l => chkS l = 0 ∧ 0 ≤ tot l ∧ tot l ≤ 1099511627776) ⟨za, ta⟩ ⟨zb, tb⟩ ⟨zu, tu⟩ ⟨zm, tm⟩ ⟨zd, td⟩ k l hk)
  have q1 : IntKind.i64.wrap (tot u + tot m) = tot a + tot b := by rw [e1]; exact IntWalk.i64_in _ (by omega)
  have q2 : IntKind.i64.wrap (tot a + tot b) = tot a + tot b := IntWalk.i64_in _ (by omega)
  have q3 : IntKind.i64.wrap (tot m + tot d) = tot a := by rw [e2]; exact IntWalk.i64_in _ (by omega)
  replace q1 := hide q1
  replace q2 := hide q2
  replace q3 := hide q3
  clear hl l1 l2 za zb zu zm zd ga gb ta tb tu tm td e1 e2
  go_enter Try.func11, Try.ntmps11
  go_wp2_with fail
  refine (K29.out _).mono ?_
  rintro e w1 ⟨rfl, hb⟩
  have hB1 := kcall hB0 hb
  replace hSa := hSa.bel hb
  replace hSb := hSb.bel hb
  clear hb hB0
  go_wp2_with fail
  refine (K44.out _ _ (slsl_two (Blk.new _ _ 30) (hSa.alloc _) (hSb.alloc _))).mono ?_
  rintro e w2 ⟨rfl, hb⟩
  have hB2 := kcall (kalloc hB1 _) hb
  replace hSa := (hSa.alloc _).bel hb
  replace hSb := (hSb.alloc _).bel hb
  clear hb hB1
  go_wp2_with fail
  refine (K37.out _ hSa hSb).mono ?_
  rintro e w3 ⟨Au, cu, rfl, hu, hb⟩
  have hB3 := kcall hB2 hb
  replace hSa := hSa.bel hb
  replace hSb := hSb.bel hb
  clear hb hB2
  go_wp2_with fail
  refine (K39.out _ hSa hSb).mono ?_
  rintro e w4 ⟨Am, cm, rfl, hm, hb⟩
  have hB4 := kcall hB3 hb
  replace hSa := hSa.bel hb
  replace hSb := hSb.bel hb
  replace hu := hu.bel hb
  clear hb hB3
  go_wp2_with fail
  refine (K41.out _ hSa hSb).mono ?_
  rintro e w5 ⟨Ad, cd, rfl, hd, hb⟩
  have hB5 := kcall hB4 hb
  replace hSa := hSa.bel hb
  replace hSb := hSb.bel hb
  replace hu := hu.bel hb
  replace hm := hm.bel hb
  clear hb hB4
  have G := hide (fun k l hk => five_at hSa hSb hu hm hd k l hk)
  have hsz := hB5.size
  have hB := hide hB5
  clear hSa hSb hu hm hd hB5
  go_wp2
  go_loopw [58] (fun i wr => ∃ (k : Nat) (cs : Array Value), k ≤ 5 ∧ i = .int .i64 k ∧ Below w5.heap.size w5 wr ∧ Blk wr (w5.heap.size + 1) 30 #[Value.slice A a.length c, .slice A2 b.length c2, .slice Au u.length cu, .slice Am m.length cm, .slice Ad d.length cd] ∧ Blk wr w5.heap.size 54 cs ∧ Cnt [a, b, u, m, d] k cs) (fun i _ => 5 - (intOf i).toNat)
  case atStart => exact ⟨0, _, by omega, rfl, kalloc (kalloc (Below.refl _ _) _) _, Blk.new1 _ _ _ 30, (Blk.new _ _ _).alloc _, Cnt.zero _⟩
  case round =>
    obtain ⟨k, cs, hk, rfl, hbr, hL, hC, hN⟩ := hrel
    by_cases hlt : k < 5
    · have hlk : [a, b, u, m, d][k]? = some ([a, b, u, m, d][k]'(by simpa using hlt)) := List.getElem?_eq_getElem _
      generalize [a, b, u, m, d][k]'(by simpa using hlt) = l at hlk
      obtain ⟨z, t1, t2⟩ := F.out k l hlk
      obtain ⟨Al, cl, hck, hS⟩ := G.out k l hlk
      have hcell := hL.cell k hck
      have hbl := hL.lt
      have K := hide (K33.out Al cl l wr (hS.bel hbr))
      rw [z, show totR l = tot l by unfold totR; rw [if_pos z]] at K
      have hN2 := hide (hN.next hlt hlk)
      obtain ⟨n0, hn0⟩ := hN.int k hlt
      have t3 : ¬ tot l < 0 := by omega
      have t4 : ¬ 1099511627776 < tot l := by omega
      clear hck hS z hlk t1 t2
      generalize tot l = n at K hN2 t3 t4
      go_wp2_with fail
      refine (K.out).mono ?_
      rintro e w7 ⟨rfl, hb⟩
      have hB7 := kcall hbr hb
      have hL7 := hL.bel hb
      have hC7 := hC.bel hb
      have x1 := hC7.cell k hn0
      have x2 := hC7.thaw k
      have x3 := hC7.lt
      clear hb hL hC K hcell hbl hbr
      go_wp2
      go_roundw
      case rel => exact ⟨k + 1, _, by omega, by go_num, hB7.setCell (by dsimp only; omega) _, hL7.far _ _ (by dsimp only; omega), hC7.set k _ rfl, hN2.out⟩
      case measure => simp [intOf]; omega
    · obtain rfl : k = 5 := by omega
      have y0 := hC.cell 0 (hN.done 0 a (by omega) rfl)
      have y1 := hC.cell 1 (hN.done 1 b (by omega) rfl)
      have y2 := hC.cell 2 (hN.done 2 u (by omega) rfl)
      have y3 := hC.cell 3 (hN.done 3 m (by omega) rfl)
      have y4 := hC.cell 4 (hN.done 4 d (by omega) rfl)
      have hbl := hC.lt
      have r1 := q1.out
      have r2 := q2.out
      have r3 := q3.out
      clear hL hC hN
      go_wp2
      go_ret
      exact ⟨rfl, kcall hB.out hbr⟩
end Go.Proofs.Ytbfgbkblblnbhaa
