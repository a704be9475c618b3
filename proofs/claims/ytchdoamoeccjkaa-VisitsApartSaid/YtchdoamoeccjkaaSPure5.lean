/-
  Lists of spans: bounds of totals; equal lists.
-/
import Derived.Test.YtchdoamoeccjkaaSPure3
namespace Go.Mine.S

theorem tot_le : ∀ {l : List Sp}, good (-1) l → 0 ≤ tot l ∧ tot l ≤ 1099511627776
  | [], _ => by simp [tot]
  | x :: r, ⟨h1, h2, h3, h4⟩ => by
    have := tot_bound r x.2 h4
    unfold tot
    by_cases hr : r = []
    · subst hr; simp [tot] at this ⊢; omega
    · rw [if_neg hr] at this
      omega
theorem nil_of {l : List Sp} (h : good (-1) l) (hn : ∀ t, inL l t = false) : l = [] :=
  good_one l [] (-1) (-1) h trivial (by intro t; rw [hn]; rfl)
theorem not_self {a : List Sp} (ha : good (-1) a) : uni fNot a a = [] :=
  nil_of (uni_good rfl ha ha) (by intro t; rw [uni_in rfl ha ha]; unfold fNot; cases inL a t <;> rfl)
theorem not_both {a b : List Sp} (ha : good (-1) a) (hb : good (-1) b) (h1 : uni fNot a b = []) (h2 : uni fNot b a = []) : a = b := by
  refine good_one a b (-1) (-1) ha hb fun t => ?_
  have x1 := uni_in (f := fNot) rfl ha hb t
  have x2 := uni_in (f := fNot) rfl hb ha t
  rw [h1] at x1
  rw [h2] at x2
  simp only [show inL [] t = false from rfl, fNot] at x1 x2
  revert x1 x2
  cases inL a t <;> cases inL b t <;> simp
theorem len_ne {a b : List Sp} (ha : good (-1) a) (hb : good (-1) b) (h : a ≠ b) : ¬ (((uni fNot a b).length : Int) + ((uni fNot b a).length : Int) = 0) := by
  intro h0
  have e1 : (uni fNot a b).length = 0 := by omega
  have e2 : (uni fNot b a).length = 0 := by omega
  exact h (not_both ha hb (List.length_eq_zero_iff.1 e1) (List.length_eq_zero_iff.1 e2))
/-- sets made of sets are equal where they have the same times -/
theorem uni_same {f g : Bool → Bool → Bool} {a b a' b' : List Sp} (hf : f false false = false) (hg : g false false = false) (ha : good (-1) a) (hb : good (-1) b) (ha' : good (-1) a') (hb' : good (-1) b')
    (h : ∀ t, f (inL a t) (inL b t) = g (inL a' t) (inL b' t)) : uni f a b = uni g a' b' :=
  good_one _ _ (-1) (-1) (uni_good hf ha hb) (uni_good hg ha' hb') (fun t => by rw [uni_in hf ha hb, uni_in hg ha' hb', h])
theorem uni_nil {a : List Sp} (ha : good (-1) a) : uni fOr a [] = a :=
  have hn : good (-1) ([] : List Sp) := trivial
  good_one _ _ (-1) (-1) (uni_good (f := fOr) rfl ha hn) ha (fun t => by rw [uni_in (f := fOr) rfl ha hn]; simp [fOr, inL])
end Go.Mine.S
