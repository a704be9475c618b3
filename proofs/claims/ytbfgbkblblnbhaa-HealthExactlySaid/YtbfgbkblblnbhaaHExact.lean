/-
  The spans in which a source is heard: a right list; its times.
-/
import Derived.Test.YtbfgbkblblnbhaaSHas
import Derived.Test.YtbfgbkblblnbhaaSPure3
import Derived.Test.YtbfgbkblblnbhaaHSame2
import Derived.Test.YtbfgbkblblnbhaaHHeard3
namespace Go.Proofs.Ytbfgbkblblnbhaa
open Go.RowKit Go.Mine Go.Mine.H Go.Mine.S

theorem good_two : ∀ (o : List Sp) (last : Int) (y : Sp), good last (o ++ [y]) → y.1 < y.2 ∧ ∀ w ∈ o, w.2 < y.1
  | [], _, _, h => ⟨h.2.1, by simp⟩
  | v :: r, last, y, h => by
    obtain ⟨g1, g2⟩ := good_two r v.2 y h.2.2.2
    refine ⟨g1, fun w hw => ?_⟩
    rcases List.mem_cons.1 hw with rfl | hw
    · have h4 := h.2.2.2
      cases r with
      | nil => exact h4.1
      | cons u r' =>
        have := g2 u (by simp)
        have a1 := h4.1
        have a2 := h4.2.1
        omega
    · exact g2 w hw
def Tip (acc : List Sp) (m q : Int) : Prop := acc = [] ∨ ∃ o y, acc = o ++ [y] ∧ y.1 ≤ m ∧ y.2 ≤ min (m + q) 1099511627776
theorem Tip.later {acc : List Sp} {m m' q : Int} (h : Tip acc m q) (hm : m ≤ m') : Tip acc m' q := by
  rcases h with h | ⟨o, y, h, h1, h2⟩
  · exact .inl h
  · exact .inr ⟨o, y, h, by omega, by omega⟩
theorem join_is {acc : List Sp} {q a : Int} (hq : 1 ≤ q) (hg : good (-1) acc) (hl : Tip acc a q) (h0 : 0 ≤ a) (h1 : a < 1099511627776) :
    good (-1) (joinL acc (spanOf q a)) ∧ Tip (joinL acc (spanOf q a)) a q ∧ ∀ t, t < 1099511627776 → inL (joinL acc (spanOf q a)) t = (inL acc t || (decide (a ≤ t) && decide (t - q < a))) := by
  have hm : a < min (a + q) 1099511627776 := by omega
  have hmE : min (a + q) 1099511627776 ≤ 1099511627776 := by omega
  have hmt : ∀ t : Int, t < 1099511627776 → (decide (t < min (a + q) 1099511627776)) = decide (t - q < a) := fun t ht => by
    rw [Bool.eq_iff_iff]; simp only [decide_eq_true_eq]; omega
  rcases hl with rfl | ⟨o, y, rfl, y1, y2⟩
  · refine ⟨⟨by simp [spanOf]; omega, hm, hmE, trivial⟩, .inr ⟨[], _, rfl, Int.le_refl _, Int.le_refl _⟩, fun t ht => ?_⟩
    simp only [joinL_nil, inL, spanOf, List.any_cons, List.any_nil, Bool.or_false, Bool.false_or, hmt t ht]
  · obtain ⟨g1, g2⟩ := good_two o (-1) y hg
    have ej : joinL (o ++ [y]) (spanOf q a) = if a ≤ y.2 then o ++ [(y.1, min (a + q) 1099511627776)] else (o ++ [y]) ++ [(a, min (a + q) 1099511627776)] := joinL_snoc o y _
    rw [ej]
    clear ej
    by_cases c : a ≤ y.2
    · rw [if_pos c]
      obtain ⟨z1, z2⟩ := y
      dsimp only at *
      refine ⟨good_end o _ z1 z2 _ hg y2 hmE, .inr ⟨o, _, rfl, y1, Int.le_refl _⟩, fun t ht => ?_⟩
      rw [inL_append, inL_append, ← hmt t ht]
      simp only [inL, List.any_cons, List.any_nil, Bool.or_false]
      generalize List.any o _ = g
      generalize min (a + q) 1099511627776 = M at *
      cases g
      · simp only [Bool.false_or]
        rw [Bool.eq_iff_iff]
        simp only [Bool.and_eq_true, Bool.or_eq_true, decide_eq_true_eq]
        omega
      · rfl
    · rw [if_neg c]
      refine ⟨good_snoc _ _ a _ hg (by omega) (fun w hw => ?_) hm hmE, .inr ⟨o ++ [y], _, rfl, Int.le_refl _, Int.le_refl _⟩, fun t ht => ?_⟩
      · rcases List.mem_append.1 hw with hw | hw
        · have := g2 w hw; omega
        · simp at hw; subst hw; omega
      · rw [inL_append, ← hmt t ht]
        simp only [inL, List.any_cons, List.any_nil, Bool.or_false]
theorem spansGo_is {q : Int} (hq : 1 ≤ q) : ∀ (xs : List Int) (acc : List Sp) (m : Int), xs.Pairwise (· ≤ ·) → (∀ a ∈ xs, m ≤ a ∧ 0 ≤ a ∧ a < 1099511627776) → good (-1) acc → Tip acc m q →
    good (-1) (spansGo q acc xs) ∧ ∀ t, t < 1099511627776 → inL (spansGo q acc xs) t = (inL acc t || xs.any (fun a => decide (a ≤ t) && decide (t - q < a)))
  | [], acc, m, _, _, hg, _ => ⟨hg, fun t _ => by simp [spansGo]⟩
  | a :: r, acc, m, hs, hr, hg, hl => by
    obtain ⟨hs1, hs2⟩ := List.pairwise_cons.1 hs
    obtain ⟨r1, r2, r3⟩ := hr a (by simp)
    obtain ⟨j1, j2, j3⟩ := join_is hq hg (hl.later r1) r2 r3
    obtain ⟨k1, k2⟩ := spansGo_is hq r (joinL acc (spanOf q a)) a hs2 (fun b hb => ⟨hs1 b hb, (hr b (by simp [hb])).2⟩) j1 j2
    refine ⟨k1, fun t ht => ?_⟩
    show inL (spansGo q (joinL acc (spanOf q a)) r) t = _
    rw [k2 t ht, j3 t ht, List.any_cons, Bool.or_assoc]
theorem spansL_is {l : List Beat} {n q : Int} (hz : chk l = 0) (ha : argsOk n q = true) (hll : l.length ≤ 4096) :
    chkS (spansL l n q) = 0 ∧ spansE l n q = 0 ∧ ∀ t, t < 1099511627776 → inL (spansL l n q) t = isIn l n q t := by
  have e1 : spansL l n q = spansGo q [] (ofL l n false) := by unfold spansL; rw [if_pos ⟨hz, ha⟩]
  have e2 : spansE l n q = 0 := by unfold spansE; rw [if_pos hz, if_pos ha]
  obtain ⟨-, s2, s3⟩ := chk_sorted l hz
  have hq : 1 ≤ q := by simp [argsOk, withinB] at ha; omega
  have hso : (ofL l n false).Pairwise (· ≤ ·) := by
    unfold ofL dir
    rw [List.pairwise_map]
    exact s3.filter _
  have hmem : ∀ a ∈ ofL l n false, 0 ≤ a ∧ 0 ≤ a ∧ a < 1099511627776 := fun a h => by
    simp only [ofL, dir, List.mem_map, List.mem_filter] at h
    obtain ⟨x, ⟨hx, _⟩, rfl⟩ := h
    have := s2 x (by simpa using hx)
    omega
  obtain ⟨k1, k2⟩ := spansGo_is hq (ofL l n false) [] 0 hso hmem trivial (.inl rfl)
  rw [e1]
  refine ⟨chkS_of k1 ?_, e2, fun t ht => ?_⟩
  · have h1 := spansGo_length q (ofL l n false) []
    have h2 := ofL_length l n false
    simp only [List.length_nil] at h1
    omega
  · rw [k2 t ht]
    simp only [inL, List.any_nil, Bool.false_or, ofL, dir, List.any_map, List.any_filter, isIn]
    congr 1
end Go.Proofs.Ytbfgbkblblnbhaa
