/-
  Layer 24: SameBools; Voters in one contract; Spans in one contract.
-/
import Derived.Test.YtbfgbkblblnbhaaHSame
import Derived.Test.YtbfgbkblblnbhaaHSpans2
namespace Go.Proofs.Ytbfgbkblblnbhaa
open Go.RowKit Go.Shelf Go.Mine Go.Mine.H

def bb (b : Bool) : List Value := [.bool b]

set_option maxHeartbeats 1000000 in
theorem sameBools_any (A B : Option Addr) (c d : Nat) (la lb : List Bool) (w : World) (hA : Sl bb 1 w A c la) (hB : Sl bb 1 w B d lb) :
    Calls Try.prog 26 #[.slice A la.length c, .slice B lb.length d] w fun e w' => e = .returned (.bool (decide (la = lb))) ∧ Below w.heap.size w w' := by
  have a1 := hA.le
  have a2 := hA.max
  have b1 := hB.le
  have b2 := hB.max
  by_cases hl : la.length = lb.length
  · have g1 : ((la.length : Int) != (lb.length : Int)) = false := by simp [hl]
    have HL := hide hl
    clear hl
    go_enter Try.func26, Try.ntmps26
    go_wp2
    go_loopw [5] (fun i wr => ∃ (k : Nat), k ≤ la.length ∧ i = .int .i64 k ∧ la.take k = lb.take k ∧ Below w.heap.size w wr) (fun i _ => la.length - (intOf i).toNat)
    case atStart => exact ⟨0, Nat.zero_le _, rfl, rfl, Below.refl _ _⟩
    case round =>
      obtain ⟨k, hk, rfl, ht, hb⟩ := hrel
      by_cases hlt : k < la.length
      · obtain ⟨x, ba, oa, hx, _, rfl, hba, p1⟩ := hA.at_ hlt
        obtain ⟨y, bb', ob, hy, _, rfl, hbb, q1⟩ := hB.at_ (show k < lb.length by rw [← HL.out]; exact hlt)
        have p1 : wr.cell? ⟨ba, oa + k, none⟩ = some (.bool x) := (hb.cell (p := ⟨ba, oa + k, none⟩) hba).trans (by have := p1 0 _ rfl; simpa using this)
        have q1 : wr.cell? ⟨bb', ob + k, none⟩ = some (.bool y) := (hb.cell (p := ⟨bb', ob + k, none⟩) hbb).trans (by have := q1 0 _ rfl; simpa using this)
        have hkb : (k : Int) < lb.length := by have := HL.out; omega
        have HT := hide ht
        have HX := hide hx
        have HY := hide hy
        clear ht hx hy hA hB
        by_cases hxy : x = y
        · subst hxy
          go_wp2_with fail
          refine wp_still_all (by kernel_rfl) (by kernel_rfl) ?_
          repeat ((with_reducible refine wpStill_step (fun K hK => ?_)); go_simp; (try go_bits); (with_reducible refine hK _ ?_); clear hK K)
          (with_reducible refine wpStill_nil ?_)
          cases x
          all_goals
            go_wp2
            go_roundw
            case rel => exact ⟨k + 1, by omega, by go_num, by rw [take_of_get HX.out, take_of_get HY.out, HT.out], hb.drew⟩
            case measure => simp [intOf]; omega
        · have hne : la ≠ lb := by
            intro e; subst e
            have := HX.out.symm.trans HY.out
            exact hxy (by simpa using this)
          have HN := hide hne
          clear hne
          cases x <;> cases y <;> simp only [reduceCtorEq, not_true_eq_false] at hxy
          all_goals
            go_wp2_with fail
            refine wp_still_all (by kernel_rfl) (by kernel_rfl) ?_
            repeat ((with_reducible refine wpStill_step (fun K hK => ?_)); go_simp; (try go_bits); (with_reducible refine hK _ ?_); clear hK K)
            (with_reducible refine wpStill_nil ?_)
            go_wp2
            go_ret
            exact ⟨ret_bool (by simp [HN.out]), hb.drew⟩
      · have HT := hide ht
        clear ht
        go_wp2
        go_ret
        refine ⟨ret_bool ?_, hb⟩
        have h := HT.out
        rw [List.take_of_length_le (by omega), List.take_of_length_le (by have := HL.out; omega)] at h
        simp [h]
  · have g1 : ((la.length : Int) != (lb.length : Int)) = true := by rw [bne_iff_ne]; omega
    go_enter Try.func26, Try.ntmps26
    go_wp2
    go_ret
    exact ⟨ret_bool (by simp; intro e; exact hl (by rw [e])), Below.refl _ _⟩

def argsV (many q t : Int) : Bool := withinB many 1 16 && (withinB q 1 1073741824 && withinB t 0 1099511627775)
def votersE (l : List Beat) (many q t : Int) : Int := if chk l = 0 then if argsV many q t = true then 0 else 1 else chk l
def votersL (l : List Beat) (many q t : Int) : List Bool := if chk l = 0 ∧ argsV many q t = true then (List.range many.toNat).map fun (n : Nat) => isIn l (n : Int) q t else []

theorem Voters_bad (A : Option Addr) (c : Nat) (l : List Beat) (many q t : Int) (w : World) (hS : Sl bc 2 w A c l) (hne : ((chk l == 0) && argsV many q t) = false) :
    Calls Try.prog 23 #[.slice A l.length c, .int .i64 many, .int .i64 q, .int .i64 t] w fun e w' => e = .returned (.tuple #[.slice none 0 0, .int .i64 (votersE l many q t)]) ∧ Below w.heap.size w w' := by
  by_cases hz : chk l = 0
  · have ha : argsV many q t = false := by simpa [hz] using hne
    have E := hide (show votersE l many q t = 1 by simp [votersE, hz, ha])
    have K47 := hide (fun w (hS : Sl bc 2 w A c l) => checkF_false A c l w hS hz)
    clear hz hne
    have hcs : withinB many 1 16 = false ∨ (withinB many 1 16 = true ∧ withinB q 1 1073741824 = false) ∨ (withinB many 1 16 = true ∧ withinB q 1 1073741824 = true ∧ withinB t 0 1099511627775 = false) := by
      unfold argsV at ha
      cases h1 : withinB many 1 16 <;> cases h2 : withinB q 1 1073741824 <;> cases h3 : withinB t 0 1099511627775 <;> simp_all
    clear ha
    rcases hcs with h1 | ⟨h1, h2⟩ | ⟨h1, h2, h3⟩
    all_goals
      go_enter Try.func23, Try.ntmps23
      go_wp2
      go_step3
      go_wp2_with (first | (go_at_call 49; refine (within_any _ _ _ _).mono ?_; rintro e w' ⟨rfl, rfl⟩) | (go_at_call 50; refine (isTime_any _ _).mono ?_; rintro e w' ⟨rfl, rfl⟩) | (go_at_call 47; refine (K47.out _ (((hS.alloc _).alloc _).alloc _)).mono ?_; rintro e w1 ⟨rfl, hb1⟩; obtain ⟨k1, k2⟩ := bcell hb1; have hz1 := hb1.size; simp at hz1))
      try rw [Exit.noGoto_ret]
      refine bodyPost_ret (v := .tuple #[.slice none 0 0, .int .i64 1]) (by simp [results, Try.results23, go_sem, k1]) rfl ⟨by rw [E.out], ?_⟩
      exact (((((Below.refl _ _).alloc (Nat.le_refl _) _).alloc (by simp) _).alloc (by simp; omega) _).trans (hb1.mono (by simp; omega))).setCell (by dsimp only; omega) _
  · have E := hide (show votersE l many q t = chk l by simp [votersE, hz])
    have hn : (chk l != 0) = true := by simp [hz]
    have K47 := hide (fun fine w (hS : Sl bc 2 w A c l) => checkF_bad A c l fine w hS hz)
    clear hz hne
    go_enter Try.func23, Try.ntmps23
    go_wp2
    go_step3
    go_wp2_with (first | (go_at_call 49; refine (within_any _ _ _ _).mono ?_; rintro e w' ⟨rfl, rfl⟩) | (go_at_call 50; refine (isTime_any _ _).mono ?_; rintro e w' ⟨rfl, rfl⟩) | (go_at_call 47; refine (K47.out _ _ (((hS.alloc _).alloc _).alloc _)).mono ?_; rintro e w1 ⟨rfl, hb1⟩; obtain ⟨k1, k2⟩ := bcell hb1; have hz1 := hb1.size; simp at hz1))
    all_goals
      try rw [Exit.noGoto_ret]
      refine bodyPost_ret (v := .tuple #[.slice none 0 0, .int .i64 (chk l)]) (by simp [results, Try.results23, go_sem, k1]) rfl ⟨by rw [E.out], ?_⟩
      exact (((((Below.refl _ _).alloc (Nat.le_refl _) _).alloc (by simp) _).alloc (by simp; omega) _).trans (hb1.mono (by simp; omega))).setCell (by dsimp only; omega) _

theorem votArr_list (l : List Beat) (q t : Int) (m : Nat) (h : chk l = 0) : (votArr l q t m m).toList = ((List.range m).map fun (n : Nat) => isIn l (n : Int) q t).flatMap bb := by
  unfold votArr bb
  rw [List.flatMap_map]
  have : ∀ (k : Nat), (∀ n ∈ List.range k, n < m) → (List.range k).map (fun n => Value.bool (if n < m then votB l q t n else false)) = (List.range k).flatMap (fun (n : Nat) => [Value.bool (isIn l (n : Int) q t)]) := by
    intro k hk
    rw [← List.map_eq_flatMap]
    apply List.map_congr_left
    intro n hn
    rw [if_pos (hk n hn)]
    unfold votB
    rw [heardIn_eq l n q t (chk_sorted l h).2.2]
  exact this m (fun n hn => by simpa using hn)

theorem Voters_any (A : Option Addr) (c : Nat) (l : List Beat) (many q t : Int) (w : World) (hS : Sl bc 2 w A c l) :
    Calls Try.prog 23 #[.slice A l.length c, .int .i64 many, .int .i64 q, .int .i64 t] w fun e w' => ∃ A2 c2, e = .returned (.tuple #[.slice A2 (votersL l many q t).length c2, .int .i64 (votersE l many q t)]) ∧ Sl bb 1 w' A2 c2 (votersL l many q t) ∧ Below w.heap.size w w' := by
  by_cases hg : ((chk l == 0) && argsV many q t) = true
  · simp only [Bool.and_eq_true, beq_iff_eq] at hg
    obtain ⟨hz, ha⟩ := hg
    have ha' := ha
    simp only [argsV, Bool.and_eq_true] at ha'
    obtain ⟨h1, h2, h3⟩ := ha'
    have hm := (withinB_iff _ _ _).1 h1
    obtain ⟨m, rfl⟩ := Int.eq_ofNat_of_zero_le (show 0 ≤ many by omega)
    refine (Voters_good A c l m q t w hS hz h1 h2 h3).mono ?_
    rintro e w' ⟨g, rfl, hh, hb⟩
    have hL : votersL l (m : Int) q t = (List.range m).map fun (n : Nat) => isIn l (n : Int) q t := by unfold votersL; rw [if_pos ⟨hz, ha⟩, Int.toNat_natCast]
    have hE : votersE l (m : Int) q t = 0 := by unfold votersE; rw [if_pos hz, if_pos ha]
    rw [hL, hE]
    have hlen : ((List.range m).map fun (n : Nat) => isIn l (n : Int) q t).length = m := by simp
    refine ⟨some ⟨g, 0, none⟩, m, by rw [hlen], ⟨by rw [hlen]; exact Nat.le_refl _, by omega, fun _ _ => rfl, fun _ => ⟨g, 0, rfl, (Array.getElem?_eq_some_iff.1 hh).1, fun i v hv => ?_⟩⟩, hb⟩
    rw [← votArr_list l q t m hz] at hv
    simp only [Nat.zero_add, World.cell?, hh]
    simpa using hv
  · have hg' : ((chk l == 0) && argsV many q t) = false := by simpa using hg
    refine (Voters_bad A c l many q t w hS hg').mono ?_
    rintro e w' ⟨rfl, hb⟩
    have hL : votersL l many q t = [] := by
      unfold votersL; rw [if_neg]; rintro ⟨h1, h2⟩; simp [h1, h2] at hg'
    exact ⟨none, 0, by rw [hL]; rfl, by rw [hL]; exact Sl.nil (by omega), hb⟩

theorem Spans_any (A : Option Addr) (c : Nat) (l : List Beat) (n q : Int) (w : World) (hS : Sl bc 2 w A c l) :
    Calls Try.prog 21 #[.slice A l.length c, .int .i64 n, .int .i64 q] w fun e w' => ∃ A2 c2, e = .returned (.tuple #[.slice A2 (spansL l n q).length c2, .int .i64 (spansE l n q)]) ∧ Sl bc 2 w' A2 c2 (spansL l n q) ∧ Below w.heap.size w w' := by
  by_cases hg : spansOk l n q = true
  · obtain ⟨hz, ha⟩ : chk l = 0 ∧ argsOk n q = true := by simpa [spansOk] using hg
    refine (Spans_good A c l n q w hS hz ha).mono ?_
    rintro e w' ⟨v, rfl, hO, hb⟩
    have hL : spansL l n q = spansGo q [] (ofL l n false) := by unfold spansL; rw [if_pos ⟨hz, ha⟩]
    have hE : spansE l n q = 0 := by unfold spansE; rw [if_pos hz, if_pos ha]
    obtain ⟨A2, c2, rfl, hs⟩ := hO.sl
    exact ⟨A2, c2, by rw [hL, hE], by rw [hL]; exact hs, hb⟩
  · have hg' : spansOk l n q = false := by simpa using hg
    refine (Spans_bad A c l n q w hS hg').mono ?_
    rintro e w' ⟨rfl, hb⟩
    have hL : spansL l n q = [] := by
      unfold spansL; rw [if_neg]; rintro ⟨h1, h2⟩; simp [spansOk, h1, h2] at hg'
    exact ⟨none, 0, by rw [hL]; rfl, by rw [hL]; exact Sl.nil (by omega), hb⟩
end Go.Proofs.Ytbfgbkblblnbhaa
