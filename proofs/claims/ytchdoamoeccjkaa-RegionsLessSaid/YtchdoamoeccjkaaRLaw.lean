/-
  What the laws lean on: a place, or a proof that there is none.
-/
import Derived.Test.YtchdoamoeccjkaaRSane
namespace Go.Proofs.Ytchdoamoeccjkaa
open Go.RowKit Go.Shelf Go.Mine Go.Mine.R
theorem fitsB_iff {W H : Int} {bl : List Rc} {bw bh x y : Int} (hw : pix bw = true) (hh : pix bh = true) : fitsB W H bl bw bh x y = true ↔ fit W H bl bw bh x y := by
  unfold fitsB fit
  rw [Bool.and_eq_true, lies_iff]
  dsimp only
  rw [hw, hh]
  constructor
  · rintro ⟨⟨h1, h2, _, _, h3, h4⟩, h5⟩; exact ⟨h1, h3, h2, h4, h5⟩
  · rintro ⟨h1, h2, h3, h4, h5⟩; exact ⟨⟨h1, h3, rfl, rfl, h2, h4⟩, h5⟩
theorem hitsAt_not {bl : List Rc} {bw bh : Int} {p : Int × Int} {i : Int} (h : hitsAt bl bw bh p i = true) : free bl bw bh p.1 p.2 = false := by
  unfold hitsAt at h
  rw [Bool.and_eq_true] at h
  obtain ⟨_, h⟩ := h
  cases hr : bl[i.toNat]? with
  | none => rw [hr] at h; cases h
  | some r =>
    rw [hr] at h
    cases hf : free bl bw bh p.1 p.2
    · rfl
    · exact absurd h (free_iff.1 hf r (List.mem_of_getElem? hr))
theorem proves_not {bl : List Rc} {bw bh : Int} : ∀ {ps : List (Int × Int)} {l : List Int}, provesGo bl bw bh ps l = true → ∀ p ∈ ps, free bl bw bh p.1 p.2 = false
  | [], _, _ => by simp
  | p :: ps, [], h => by rw [proves_short] at h; cases h
  | p :: ps, i :: l, h => by
    rw [proves_cons, Bool.and_eq_true] at h
    intro q hq
    rcases List.mem_cons.1 hq with rfl | hq
    · exact hitsAt_not h.1
    · exact proves_not h.2 q hq
theorem proves_place {W H : Int} {bl : List Rc} {bw bh : Int} {p : Int × Int} (hp : place W H bl bw bh = some p) (l : List Int) : provesGo bl bw bh (places W H bl bw bh) l = false := by
  cases h : provesGo bl bw bh (places W H bl bw bh) l
  · rfl
  · have h1 := proves_not h p (List.mem_of_find?_eq_some hp)
    have h2 := List.find?_some hp
    rw [h1] at h2; cases h2
theorem proves_hits {bl : List Rc} {bw bh : Int} : ∀ {ps : List (Int × Int)}, (∀ p ∈ ps, free bl bw bh p.1 p.2 = false) → provesGo bl bw bh ps (hitsL bl bw bh ps) = true
  | [], _ => rfl
  | p :: ps, h => by
    rw [show hitsL bl bw bh (p :: ps) = hitAt bl ⟨p.1, p.2, bw, bh⟩ 0 :: hitsL bl bw bh ps from rfl, proves_cons, Bool.and_eq_true]
    refine ⟨?_, proves_hits fun q hq => h q (by simp [hq])⟩
    have hf := h p (by simp)
    have hn := hitAt_neg bl ⟨p.1, p.2, bw, bh⟩ 0
    dsimp only at hn
    rw [hf] at hn
    have hge : 0 ≤ hitAt bl ⟨p.1, p.2, bw, bh⟩ 0 := by simpa using hn
    obtain ⟨i, h1, r, h2, h3⟩ := hitAt_hit bl ⟨p.1, p.2, bw, bh⟩ 0 hge
    unfold hitsAt
    rw [Bool.and_eq_true]
    refine ⟨by simpa using hge, ?_⟩
    rw [h1]
    simp [h2, h3]
theorem place_no {W H : Int} {bl : List Rc} {bw bh : Int} (hp : place W H bl bw bh = none) : ∀ p ∈ places W H bl bw bh, free bl bw bh p.1 p.2 = false := by
  intro p hm
  have := List.find?_eq_none.1 hp p hm
  simpa using this
/-- all that is known when a box has a place, or has none -/
theorem placeR_some {W H : Int} {bl : List Rc} {bw bh : Int} {p : Int × Int} (hz : chkA W H bl bw bh = 0) (hp : place W H bl bw bh = some p) : placeR W H bl bw bh = (p.1, p.2, true, 0) := by unfold placeR; rw [if_pos hz, hp]
theorem placeR_none {W H : Int} {bl : List Rc} {bw bh : Int} (hz : chkA W H bl bw bh = 0) (hp : place W H bl bw bh = none) : placeR W H bl bw bh = (0, 0, false, 0) := by unfold placeR; rw [if_pos hz, hp]
theorem denyB_some {W H : Int} {bl : List Rc} {bw bh : Int} {p : Int × Int} (hp : place W H bl bw bh = some p) : denyB W H bl bw bh = false ∧ denyL W H bl bw bh = [] := by
  have hd : denied W H bl bw bh = false := by unfold denied; rw [hp]; rfl
  exact ⟨by unfold denyB; rw [hd, Bool.and_false], by unfold denyL; rw [if_neg]; rw [hd]; simp⟩
theorem denyB_none {W H : Int} {bl : List Rc} {bw bh : Int} (hz : chkA W H bl bw bh = 0) (hp : place W H bl bw bh = none) : denyB W H bl bw bh = true ∧ denyL W H bl bw bh = hitsL bl bw bh (places W H bl bw bh) := by
  have hd : denied W H bl bw bh = true := by unfold denied; rw [hp]; rfl
  exact ⟨by unfold denyB; rw [hd, hz]; rfl, by unfold denyL; rw [if_pos ⟨hz, hd⟩]⟩
theorem fits_place {W H : Int} {bl : List Rc} {bw bh : Int} {p : Int × Int} (hz : chkA W H bl bw bh = 0) (hp : place W H bl bw bh = some p) : fitsB W H bl bw bh p.1 p.2 = true := by
  have G := chkA_zero hz
  exact (fitsB_iff (pix_iff.2 G.w_) (pix_iff.2 G.h_)).2 (place_fit hp)
theorem fits_none {W H : Int} {bl : List Rc} {bw bh : Int} (hz : chkA W H bl bw bh = 0) (hp : place W H bl bw bh = none) (x y : Int) : fitsB W H bl bw bh x y = false := by
  have G := chkA_zero hz
  cases h : fitsB W H bl bw bh x y
  · rfl
  · exact absurd ((fitsB_iff (pix_iff.2 G.w_) (pix_iff.2 G.h_)).1 h) (place_none hp x y)
theorem refB_some {W H : Int} {bl : List Rc} {bw bh : Int} {p : Int × Int} (hp : place W H bl bw bh = some p) (l : List Int) : refB W H bl bw bh l = false := by unfold refB; rw [proves_place hp, Bool.and_false]
theorem refB_own {W H : Int} {bl : List Rc} {bw bh : Int} (hz : chkA W H bl bw bh = 0) (hp : place W H bl bw bh = none) : refB W H bl bw bh (hitsL bl bw bh (places W H bl bw bh)) = true := by
  unfold refB; rw [decide_eq_true hz, Bool.true_and]; exact proves_hits (place_no hp)
theorem place_small {W H : Int} {bl : List Rc} {bw bh : Int} {p : Int × Int} (hz : chkA W H bl bw bh = 0) (hp : place W H bl bw bh = some p) : 0 ≤ p.1 ∧ p.1 ≤ 16384 ∧ 0 ≤ p.2 ∧ p.2 ≤ 16384 := by
  have G := chkA_zero hz
  obtain ⟨h1, h2, h3, h4, _⟩ := place_fit hp
  have := G.W_; have := G.H_; have := G.w_; have := G.h_
  omega
end Go.Proofs.Ytchdoamoeccjkaa
