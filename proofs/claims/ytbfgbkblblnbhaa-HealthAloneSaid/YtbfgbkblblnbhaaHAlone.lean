/-
  Layer 24: the beats of one source, and those till a time, plainly.
-/
import Derived.Test.YtbfgbkblblnbhaaHealthBeatLaw
import Derived.Test.YtbfgbkblblnbhaaPush2
namespace Go.Proofs.Ytbfgbkblblnbhaa
open Go.RowKit Go.Mine Go.Mine.H

theorem chkGo_filter (p : Beat → Bool) : ∀ (l : List Beat) (last last' : Int), last' ≤ last → chkGo last l = 0 → chkGo last' (l.filter p) = 0
  | [], _, _, _, _ => rfl
  | x :: l, last, last', hle, h => by
    unfold chkGo at h
    split at h
    · rename_i hok
      rw [List.filter_cons]
      have h1 := (okB_iff last x).1 hok
      split
      · unfold chkGo
        rw [if_pos ((okB_iff last' x).2 (by omega))]
        exact chkGo_filter p l x.2 x.2 (Int.le_refl _) h
      · exact chkGo_filter p l x.2 last' (by omega) h
    · cases h
theorem chk_filter (p : Beat → Bool) {l : List Beat} (hl : l.length ≤ 4096) (h : chk l = 0) : chk (l.filter p) = 0 := by
  unfold chk at h ⊢
  have := List.length_filter_le p l
  rw [if_neg (by omega)] at h ⊢
  exact chkGo_filter p l 0 0 (Int.le_refl _) h
theorem right_filter (p : Beat → Bool) {l : List Beat} (h : rightB l = true) : chk (l.filter p) = 0 := by
  simp [rightB] at h
  exact chk_filter p (by omega) h.2
def ownP (n : Int) (x : Beat) : Bool := x.1 == n
def earP (n t : Int) (x : Beat) : Bool := (x.1 == n) && decide (x.2 ≤ t)
theorem ofL_own (l : List Beat) (n : Int) : ofL (l.filter (ownP n)) n false = ofL l n false := by
  unfold ofL dir
  simp only [Bool.false_eq_true, if_false, List.filter_filter]
  congr 1
  apply List.filter_congr
  intro x _
  simp [bySrc, ownP]
theorem isIn_early (l : List Beat) (n q t : Int) : isIn (l.filter (earP n t)) n q t = isIn l n q t := by
  unfold isIn
  rw [List.any_filter]
  congr 1
  funext x
  unfold earP
  cases h1 : (x.1 == n) <;> cases h2 : decide (x.2 ≤ t) <;> simp
theorem heard_early {l : List Beat} (h : rightB l = true) (n q t : Int) : heardR (l.filter (earP n t)) n q t = heardR l n q t := by
  unfold heardR
  rw [rightB_chk h, right_filter _ h, isIn_early]
theorem spansL_own {l : List Beat} (h : rightB l = true) (n q : Int) : spansL (l.filter (ownP n)) n q = spansL l n q := by
  unfold spansL
  rw [rightB_chk h, right_filter _ h, ofL_own]
theorem spansE_own {l : List Beat} (h : rightB l = true) (n q : Int) : spansE (l.filter (ownP n)) n q = spansE l n q := by
  unfold spansE
  rw [rightB_chk h, right_filter _ h]
theorem filter_take_yes (p : Beat → Bool) {l : List Beat} {k : Nat} {x : Beat} (h : l[k]? = some x) (hp : p x = true) : (l.take (k + 1)).filter p = (l.take k).filter p ++ [x] := by
  rw [take_of_get h, List.filter_append]; simp [hp]
theorem filter_take_no (p : Beat → Bool) {l : List Beat} {k : Nat} {x : Beat} (h : l[k]? = some x) (hp : p x = false) : (l.take (k + 1)).filter p = (l.take k).filter p := by
  rw [take_of_get h, List.filter_append]; simp [hp]
theorem filter_take_len (p : Beat → Bool) (l : List Beat) (k : Nat) : ((l.take k).filter p).length ≤ l.length := Nat.le_trans (List.length_filter_le _ _) (List.length_take_le' _ _)
theorem Try_info41' : (Try.prog.info? 41).map (fun i => (i.zero, i.size, i.bytes)) = some (some (.agg #[.int .i64 0, .int .i64 0]), 2, 16) := by kernel_rfl
end Go.Proofs.Ytbfgbkblblnbhaa
