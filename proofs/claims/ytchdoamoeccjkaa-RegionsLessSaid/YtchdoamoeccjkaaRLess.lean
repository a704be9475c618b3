/-
  Fewer regions, another order, smaller boxes.
-/
import Derived.Test.YtchdoamoeccjkaaRLaw
namespace Go.Proofs.Ytchdoamoeccjkaa
open Go.RowKit Go.Shelf Go.Mine Go.Mine.R
theorem same_place {W H : Int} {bl bl' : List Rc} {w h : Int} (hm : ∀ r, r ∈ bl' ↔ r ∈ bl) : place W H bl' w h = place W H bl w h := by
  have e1 : rowsL H h bl' = rowsL H h bl := sorted_eq (rows_sorted _ _ _) (rows_sorted _ _ _) fun x => by rw [rows_mem, rows_mem]; unfold rowB; simp only [hm]
  have e2 : colsL W w bl' = colsL W w bl := sorted_eq (cols_sorted _ _ _) (cols_sorted _ _ _) fun x => by rw [cols_mem, cols_mem]; unfold colB; simp only [hm]
  have e3 : ∀ x y, free bl' w h x y = free bl w h x y := fun x y => by rw [Bool.eq_iff_iff, free_iff, free_iff]; simp only [hm]
  unfold place places
  rw [e1, e2]
  simp only [e3]
theorem chkA_of {W H : Int} {bl : List Rc} {bw bh : Int} (hW : pix W = true) (hH : pix H = true) (hw : pix bw = true) (hh : pix bh = true) (hl : bl.length ≤ 32) (ho : ∀ r ∈ bl, lies W H r = true) : chkA W H bl bw bh = 0 := by
  have h1 : noOdd W H bl = true := List.all_eq_true.2 ho
  have h2 : chkS W H bl = 0 := by rw [chkS_eq, if_neg (by omega), hW, hH, h1]; rfl
  unfold chkA
  rw [if_pos h2, hw, hh]; rfl
theorem lies_of {W H : Int} {bl : List Rc} {bw bh : Int} (hz : chkA W H bl bw bh = 0) : ∀ r ∈ bl, lies W H r = true := by
  have : chkS W H bl = 0 := by
    unfold chkA at hz
    split at hz
    · assumption
    · rename_i h; exact absurd hz h
  exact List.all_eq_true.1 (chkS_zero this).2.2.2
theorem chkA_sub {W H : Int} {bl bl' : List Rc} {bw bh : Int} (hz : chkA W H bl bw bh = 0) (hm : ∀ r ∈ bl', r ∈ bl) (hl : bl'.length ≤ 32) : chkA W H bl' bw bh = 0 := by
  have G := chkA_zero hz
  exact chkA_of (pix_iff.2 G.W_) (pix_iff.2 G.H_) (pix_iff.2 G.w_) (pix_iff.2 G.h_) hl fun r hr => lies_of hz r (hm r hr)
theorem chkA_box {W H : Int} {bl : List Rc} {bw bh bw' bh' : Int} (hz : chkA W H bl bw bh = 0) (hw : 1 ≤ bw' ∧ bw' ≤ bw) (hh : 1 ≤ bh' ∧ bh' ≤ bh) : chkA W H bl bw' bh' = 0 := by
  have G := chkA_zero hz
  have g1 := G.w_
  have g2 := G.h_
  exact chkA_of (pix_iff.2 G.W_) (pix_iff.2 G.H_) (pix_iff.2 (by omega)) (pix_iff.2 (by omega)) G.few (lies_of hz)
theorem less_sub {W H : Int} {bl bl' : List Rc} {bw bh : Int} (hm : ∀ r ∈ bl', r ∈ bl) {p : Int × Int} (hp : place W H bl bw bh = some p) : ∃ q, place W H bl' bw bh = some q ∧ p.2 ≤ q.2 := by
  obtain ⟨h1, h2, h3, h4, h5⟩ := place_fit hp
  obtain ⟨q, hq, h⟩ := place_best (bl := bl') (show fit W H bl' bw bh p.1 p.2 from ⟨h1, h2, h3, h4, free_iff.2 fun r hr => free_iff.1 h5 r (hm r hr)⟩)
  exact ⟨q, hq, by omega⟩
theorem less_box {W H : Int} {bl : List Rc} {bw bh bw' bh' : Int} (hw : bw' ≤ bw) (hh : bh' ≤ bh) {p : Int × Int} (hp : place W H bl bw bh = some p) : ∃ q, place W H bl bw' bh' = some q ∧ p.2 ≤ q.2 := by
  obtain ⟨h1, h2, h3, h4, h5⟩ := place_fit hp
  obtain ⟨q, hq, h⟩ := place_best (W := W) (H := H) (bl := bl) (w := bw') (h := bh') (x := p.1) (y := p.2) ⟨h1, by omega, h3, by omega, free_iff.2 fun r hr hh' => free_iff.1 h5 r hr (by
    rw [hit_iff] at hh' ⊢
    dsimp only at hh' ⊢
    omega)⟩
  exact ⟨q, hq, by omega⟩
/-- what Place answers, when all is right -/
theorem placeR_ok {W H : Int} {bl : List Rc} {bw bh : Int} (hz : chkA W H bl bw bh = 0) : ∃ a b ok, placeR W H bl bw bh = (a, b, ok, 0) ∧ ((ok = true ∧ place W H bl bw bh = some (a, b)) ∨ (ok = false ∧ place W H bl bw bh = none)) := by
  cases hp : place W H bl bw bh with
  | none => exact ⟨0, 0, false, placeR_none hz hp, .inr ⟨rfl, rfl⟩⟩
  | some p => exact ⟨p.1, p.2, true, placeR_some hz hp, .inl ⟨rfl, rfl⟩⟩
theorem placeR_same {W H : Int} {bl bl' : List Rc} {bw bh : Int} (hz : chkA W H bl bw bh = 0) (hm : ∀ r, r ∈ bl' ↔ r ∈ bl) (hl : bl'.length ≤ 32) : placeR W H bl' bw bh = placeR W H bl bw bh := by
  unfold placeR
  rw [hz, chkA_sub hz (fun r hr => (hm r).1 hr) hl, same_place hm]
/-- parts of a list of regions -/
theorem rc_flat (l : List Rc) : ∀ x ∈ l, (rcC x).length = 4 := fun _ _ => rfl
theorem rc_part {w : World} {b off c c' : Nat} {l : List Rc} (h : Sl rcC 4 w (some ⟨b, off, none⟩) c l) (k : Nat) (hc : l.length - k ≤ c') (hc2 : c' ≤ 9223372036854775807) : Sl rcC 4 w (some ⟨b, off + k * 4, none⟩) c' (l.drop k) := by
  refine ⟨by simpa using hc, hc2, fun _ _ => rfl, fun hn => ?_⟩
  have hne : l ≠ [] := by rintro rfl; simp at hn
  obtain ⟨b', off', e, hb, hcell⟩ := h.cells hne
  simp only [Option.some.injEq, Addr.mk.injEq, and_true] at e
  obtain ⟨rfl, rfl⟩ := e
  refine ⟨b, off + k * 4, rfl, hb, fun i v hv => ?_⟩
  rw [Nat.add_assoc]
  refine hcell (k * 4 + i) v ?_
  have e1 : l.flatMap rcC = (l.take k).flatMap rcC ++ (l.drop k).flatMap rcC := by rw [← List.flatMap_append, List.take_append_drop]
  have hk : k ≤ l.length := by
    rcases Nat.lt_or_ge l.length k with h | h
    · rw [List.drop_of_length_le (by omega)] at hn; simp at hn
    · exact h
  have e2 : ((l.take k).flatMap rcC).length = k * 4 := by rw [flat_length rcC 4 _ (rc_flat _)]; simp; omega
  rw [e1, List.getElem?_append_right (by omega), e2, Nat.add_sub_cancel_left]
  exact hv
theorem rc_take {w : World} {A : Option Addr} {c : Nat} {l : List Rc} (h : Sl rcC 4 w A c l) (k : Nat) : Sl rcC 4 w A c (l.take k) := by
  refine ⟨Nat.le_trans (List.length_take_le' _ _) h.le, h.max, fun _ _ => rfl, fun hn => ?_⟩
  obtain ⟨b, off, e, hb, hc⟩ := h.cells (by rintro rfl; simp at hn)
  refine ⟨b, off, e, hb, fun i v hv => hc i v ?_⟩
  have e1 : l.flatMap rcC = (l.take k).flatMap rcC ++ (l.drop k).flatMap rcC := by rw [← List.flatMap_append, List.take_append_drop]
  rw [e1, List.getElem?_append_left (List.getElem?_eq_some_iff.1 hv).1]; exact hv
theorem rc_one (l : List Rc) : ∀ x ∈ l, ∀ u ∈ rcC x, u.oneCell' = true := by
  intro x _ u hu
  simp [rcC] at hu
  rcases hu with rfl | rfl | rfl | rfl <;> rfl
theorem run_ext_rc {P : Program} {w : World} {t ty e : TypeId} {base : Nat} {i : TypeInfo} {z : Value} {bytes : Nat} (ht : P.underlying t = some (.slice e)) (hi : P.info? e = some i) (hz : i.zero = some z)
    (hsize : i.size = 4) (hby : i.bytes = bytes) (hzs : z.cells.size = 4) {v : Value} {l1 l2 : List Rc} (hown : OwnL rcC 4 e w base v l1) {A : Option Addr} {c n : Nat} (hn : l2.length = n) (h2 : Sl rcC 4 w A c l2)
    (h63 : l1.length + n ≤ maxLen) (hbytes : (l1.length + n) * bytes ≤ 140737488355328) (hbase : base ≤ w.heap.size) :
    ∃ v' w', (Builtin.append_ #[t, t] ty #[v, .slice A n c]).run P w = .ok v' w' ∧ OwnL rcC 4 e w' base v' (l1 ++ l2) ∧ w.grownBy w' v.ownBlock ∧ (∀ g, v'.ownBlock = some g → v.ownBlock = some g ∨ w.heap.size ≤ g) := by
  subst hn
  exact run_extend ht hi hz hsize hby hzs (by decide) hown h2 (rc_one _) h63 hbytes hbase
theorem rem_nat (t n : Nat) : (t : Int).tmod (n : Int) = ((t % n : Nat) : Int) := by
  rw [Int.ofNat_tmod]
end Go.Proofs.Ytchdoamoeccjkaa
