/-
  Layer 24 (health) in plain lists: what its functions compute.
-/
import Derived.Test.YtbfgbkblblnbhaaBase
namespace Go.Mine.H
open Go.RowKit

abbrev Beat := Int × Int
def bc (x : Beat) : List Value := [.int .i64 x.1, .int .i64 x.2]

def withinB (n lo hi : Int) : Bool := decide (lo ≤ n) && decide (n ≤ hi)
theorem withinB_iff (n lo hi : Int) : withinB n lo hi = true ↔ lo ≤ n ∧ n ≤ hi := by simp [withinB]
theorem withinB_not (n lo hi : Int) : withinB n lo hi = false ↔ ¬ (lo ≤ n ∧ n ≤ hi) := by rw [← withinB_iff]; simp
def okB (last : Int) (x : Beat) : Bool := withinB x.1 0 15 && withinB x.2 last 1099511627775
theorem okB_iff (last : Int) (x : Beat) : okB last x = true ↔ (0 ≤ x.1 ∧ x.1 ≤ 15) ∧ (last ≤ x.2 ∧ x.2 ≤ 1099511627775) := by simp [okB, withinB]
def chkGo (last : Int) : List Beat → Int
  | [] => 0
  | x :: r => if okB last x = true then chkGo x.2 r else 240
def chk (l : List Beat) : Int := if 4096 < l.length then 2 else chkGo 0 l

/-- the order in which 'of' goes through the beats -/
def dir (back : Bool) (l : List Beat) : List Beat := if back then l.reverse else l
def idx (back : Bool) (n k : Nat) : Nat := if back then n - 1 - k else k
theorem dir_length (back : Bool) (l : List Beat) : (dir back l).length = l.length := by cases back <;> simp [dir]
theorem dir_get (back : Bool) (l : List Beat) (k : Nat) (hk : k < l.length) : (dir back l)[k]? = l[idx back l.length k]? := by
  cases back
  · rfl
  · simp only [dir, idx, if_true]; rw [List.getElem?_reverse hk]
def bySrc (src : Int) (x : Beat) : Bool := x.1 == src
def ofL (l : List Beat) (src : Int) (back : Bool) : List Int := ((dir back l).filter (bySrc src)).map (·.2)
def ofN (l : List Beat) (src : Int) (back : Bool) (k : Nat) : Nat := (((dir back l).take k).filter (bySrc src)).length

theorem filter_take_get {α : Type} (p : α → Bool) : ∀ (l : List α) (k : Nat) (x : α), l[k]? = some x → p x = true → (l.filter p)[((l.take k).filter p).length]? = some x
  | [], k, x, h, _ => by simp at h
  | y :: l, 0, x, h, hp => by simp at h; subst h; simp [hp]
  | y :: l, k + 1, x, h, hp => by
    have := filter_take_get p l k x (by simpa using h) hp
    rw [List.take_succ_cons]
    by_cases hy : p y = true
    · simp [hy]; exact this
    · simp [hy]; exact this
theorem filter_take_succ {α : Type} (p : α → Bool) (l : List α) (k : Nat) (x : α) (h : l[k]? = some x) : ((l.take (k + 1)).filter p).length = ((l.take k).filter p).length + if p x = true then 1 else 0 := by
  rw [List.take_add_one, h, List.filter_append, List.length_append]
  by_cases hp : p x = true <;> simp [hp]

theorem ofN_get (l : List Beat) (src : Int) (back : Bool) (k : Nat) (x : Beat) (hx : (dir back l)[k]? = some x) (hs : bySrc src x = true) : (ofL l src back)[ofN l src back k]? = some x.2 := by
  unfold ofL ofN
  rw [List.getElem?_map, filter_take_get _ _ _ _ hx hs]; rfl
theorem ofN_succ (l : List Beat) (src : Int) (back : Bool) (k : Nat) (x : Beat) (hx : (dir back l)[k]? = some x) : ofN l src back (k + 1) = ofN l src back k + if bySrc src x = true then 1 else 0 :=
  filter_take_succ _ _ _ _ hx
theorem ofN_all (l : List Beat) (src : Int) (back : Bool) : ofN l src back l.length = (ofL l src back).length := by
  unfold ofL ofN
  rw [List.take_of_length_le (by rw [dir_length]; exact Nat.le_refl _), List.length_map]
theorem ofN_zero (l : List Beat) (src : Int) (back : Bool) : ofN l src back 0 = 0 := rfl

/-- whether a source is heard, by its beats in the order in which they are gone through -/
def heardIn (xs : List Int) (q t : Int) : Bool := match xs.find? (fun a => decide (a ≤ t)) with | some a => decide (t - a < q) | none => false

def isIn (l : List Beat) (n q t : Int) : Bool := l.any fun x => (x.1 == n) && (decide (x.2 ≤ t) && decide (t - q < x.2))
def argsOk (n q : Int) : Bool := withinB n 0 15 && withinB q 1 1073741824
def heardR (l : List Beat) (n q t : Int) : Bool × Int := if chk l = 0 then if (argsOk n q && withinB t 0 1099511627775) = true then (isIn l n q t, 0) else (false, 1) else (false, chk l)

/-- what a right list is -/
theorem chkGo_cases (last : Int) (l : List Beat) : chkGo last l = 0 ∨ chkGo last l = 240 := by
  induction l generalizing last with
  | nil => exact .inl rfl
  | cons x r ih => unfold chkGo; split; exact ih _; exact .inr rfl
theorem chkGo_sorted : ∀ (l : List Beat) (last : Int), chkGo last l = 0 → (∀ x ∈ l, last ≤ x.2 ∧ x.2 ≤ 1099511627775 ∧ 0 ≤ x.1 ∧ x.1 ≤ 15) ∧ l.Pairwise (fun a b => a.2 ≤ b.2)
  | [], _, _ => ⟨by simp, List.Pairwise.nil⟩
  | x :: r, last, h => by
    unfold chkGo at h
    split at h
    · rename_i hok
      simp only [okB, Bool.and_eq_true, withinB_iff] at hok
      obtain ⟨h1, h2⟩ := chkGo_sorted r x.2 h
      refine ⟨fun y hy => ?_, List.Pairwise.cons (fun y hy => (h1 y hy).1) h2⟩
      rcases List.mem_cons.1 hy with rfl | hy
      · omega
      · have := h1 y hy; omega
    · omega
theorem chk_sorted (l : List Beat) (h : chk l = 0) : l.length ≤ 4096 ∧ (∀ x ∈ l, 0 ≤ x.2 ∧ x.2 ≤ 1099511627775 ∧ 0 ≤ x.1 ∧ x.1 ≤ 15) ∧ l.Pairwise (fun a b => a.2 ≤ b.2) := by
  unfold chk at h
  split at h
  · omega
  · obtain ⟨h1, h2⟩ := chkGo_sorted l 0 h
    exact ⟨by omega, h1, h2⟩

/-- the last beat that is not later decides -/
theorem find_last (p : Int → Bool) (t q : Int) : ∀ (xs : List Int), xs.Pairwise (fun a b => b ≤ a) → heardIn xs q t = xs.any (fun a => decide (a ≤ t) && decide (t - q < a))
  | [], _ => rfl
  | a :: r, h => by
    obtain ⟨h1, h2⟩ := List.pairwise_cons.1 h
    unfold heardIn
    rw [List.find?_cons, List.any_cons]
    by_cases ha : a ≤ t
    · simp only [ha, decide_true, Bool.true_and]
      by_cases hq : t - q < a
      · simp [hq]; omega
      · have : r.any (fun a => decide (a ≤ t) && decide (t - q < a)) = false := by
          rw [List.any_eq_false]; intro y hy; have := h1 y hy; simp; omega
        rw [this]; simp [hq]; omega
    · simp only [ha, decide_false, Bool.false_and, Bool.false_or]
      exact find_last p t q r h2
theorem heardIn_eq (l : List Beat) (n q t : Int) (h : l.Pairwise (fun a b => a.2 ≤ b.2)) : heardIn (ofL l n true) q t = isIn l n q t := by
  rw [find_last (fun _ => true)]
  · unfold ofL isIn
    rw [List.any_map, List.any_filter, dir, if_pos rfl, List.any_reverse]
    rfl
  · unfold ofL
    rw [List.pairwise_map, dir, if_pos rfl]
    exact (List.pairwise_reverse.2 h).filter _

/-! ### spans -/
def joinL (ls : List (Int × Int)) (x : Int × Int) : List (Int × Int) :=
  match ls.getLast? with
  | some y => if x.1 ≤ y.2 then ls.dropLast ++ [(y.1, x.2)] else ls ++ [x]
  | none => [x]
theorem joinL_nil (x : Int × Int) : joinL [] x = [x] := rfl
theorem joinL_snoc (ls : List (Int × Int)) (y x : Int × Int) : joinL (ls ++ [y]) x = if x.1 ≤ y.2 then ls ++ [(y.1, x.2)] else (ls ++ [y]) ++ [x] := by
  simp [joinL]
theorem joinL_length (ls : List (Int × Int)) (x : Int × Int) : (joinL ls x).length ≤ ls.length + 1 := by
  rcases List.eq_nil_or_concat ls with rfl | ⟨l', y, rfl⟩
  · simp [joinL]
  · rw [List.concat_eq_append, joinL_snoc]; split <;> simp
def spanOf (q at_ : Int) : Int × Int := (at_, min (at_ + q) 1099511627776)
def spansGo (q : Int) (acc : List (Int × Int)) (ts : List Int) : List (Int × Int) := ts.foldl (fun acc a => joinL acc (spanOf q a)) acc
theorem spansGo_length (q : Int) : ∀ (ts : List Int) (acc : List (Int × Int)), (spansGo q acc ts).length ≤ acc.length + ts.length
  | [], acc => by simp [spansGo]
  | a :: ts, acc => by
    have h := spansGo_length q ts (joinL acc (spanOf q a))
    have := joinL_length acc (spanOf q a)
    show (spansGo q (joinL acc (spanOf q a)) ts).length ≤ _
    simp only [List.length_cons]; omega
theorem spansGo_snoc (q : Int) (ts : List Int) (a : Int) (acc : List (Int × Int)) : spansGo q acc (ts ++ [a]) = joinL (spansGo q acc ts) (spanOf q a) := by
  simp [spansGo, List.foldl_append]

end Go.Mine.H
