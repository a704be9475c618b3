/-
  Layer 13 (spans), plainly: the reference's way from border to border makes the same list; the laws of sets.
-/
import Derived.Test.YtchdoamoeccjkaaSPure2
namespace Go.Mine.S

/-! ### borders -/
def placeL (l : List Int) (n : Int) : List Int := if n ∈ l then l else l.filter (fun x => decide (x < n)) ++ n :: l.filter (fun x => !decide (x < n))
theorem placeL_mem (l : List Int) (n x : Int) : x ∈ placeL l n ↔ x = n ∨ x ∈ l := by
  unfold placeL
  split
  · rename_i h
    constructor
    · exact .inr
    · rintro (rfl | h'); exact h; exact h'
  · simp only [List.mem_append, List.mem_cons, List.mem_filter, decide_eq_true_eq, Bool.not_eq_true', decide_eq_false_iff_not]
    constructor
    · rintro (⟨h, _⟩ | rfl | ⟨h, _⟩)
      · exact .inr h
      · exact .inl rfl
      · exact .inr h
    · rintro (rfl | h)
      · exact .inr (.inl rfl)
      · by_cases c : x < n
        · exact .inl ⟨h, c⟩
        · exact .inr (.inr ⟨h, c⟩)
theorem placeL_sorted {l : List Int} {n : Int} (h : l.Pairwise (· < ·)) : (placeL l n).Pairwise (· < ·) := by
  unfold placeL
  split
  · exact h
  · rename_i hn
    refine List.pairwise_append.2 ⟨h.filter _, List.pairwise_cons.2 ⟨fun x hx => ?_, h.filter _⟩, fun x hx y hy => ?_⟩
    · simp only [List.mem_filter, Bool.not_eq_true', decide_eq_false_iff_not] at hx
      have : x ≠ n := fun e => hn (e ▸ hx.1)
      omega
    · simp only [List.mem_filter, decide_eq_true_eq] at hx
      rcases List.mem_cons.1 hy with rfl | hy
      · exact hx.2
      · simp only [List.mem_filter, Bool.not_eq_true', decide_eq_false_iff_not] at hy
        omega
def bordL (out : List Int) (l : List Sp) : List Int := l.foldl (fun o x => placeL (placeL o x.1) x.2) out
theorem bordL_mem : ∀ (l : List Sp) (out : List Int) (x : Int), x ∈ bordL out l ↔ x ∈ out ∨ x ∈ ends l
  | [], out, x => by simp [bordL, ends]
  | y :: r, out, x => by
    have h := bordL_mem r (placeL (placeL out y.1) y.2) x
    unfold bordL at h ⊢
    rw [List.foldl_cons, h, placeL_mem, placeL_mem, show ends (y :: r) = y.1 :: y.2 :: ends r from rfl]
    simp only [List.mem_cons]
    constructor
    · rintro ((h | h | h) | h)
      · exact .inr (.inr (.inl h))
      · exact .inr (.inl h)
      · exact .inl h
      · exact .inr (.inr (.inr h))
    · rintro (h | h | h | h)
      · exact .inl (.inr (.inr h))
      · exact .inl (.inr (.inl h))
      · exact .inl (.inl h)
      · exact .inr h
theorem bordL_sorted : ∀ (l : List Sp) (out : List Int), out.Pairwise (· < ·) → (bordL out l).Pairwise (· < ·)
  | [], _, h => h
  | _ :: r, _, h => bordL_sorted r _ (placeL_sorted (placeL_sorted h))
def addL (out : List Sp) (x : Sp) : List Sp := match out.getLast? with
  | some z => if z.2 = x.1 then out.dropLast ++ [(z.1, x.2)] else out ++ [x]
  | none => out ++ [x]
def refGo (f : Bool → Bool → Bool) (a b : List Sp) (out : List Sp) : List Int → List Sp
  | x :: y :: r => refGo f a b (if f (inL a x) (inL b x) = true then addL out (x, y) else out) (y :: r)
  | _ => out
def refU (f : Bool → Bool → Bool) (a b : List Sp) : List Sp := refGo f a b [] (bordL (bordL [] a) b)

theorem inE_const : ∀ (l : List Int) (p : Bool) (x y t : Int), (∀ e ∈ l, e ≤ x ∨ y ≤ e) → x ≤ t → t < y → inE p l t = inE p l x
  | [], _, _, _, _, _, _, _ => rfl
  | e :: r, p, x, y, t, h, h1, h2 => by
    unfold inE
    have he := h e (by simp)
    by_cases c : e ≤ x
    · rw [if_pos (by omega), if_pos c]; exact inE_const r (!p) x y t (fun e' he' => h e' (by simp [he'])) h1 h2
    · rw [if_neg (by omega), if_neg c]
theorem inE_after : ∀ (l : List Int) (p : Bool) (t : Int), (∀ e ∈ l, e ≤ t) → inE p l t = par p l
  | [], _, _, _ => rfl
  | e :: r, p, t, h => by
    unfold inE par
    rw [if_pos (h e (by simp))]; exact inE_after r (!p) t (fun e' he' => h e' (by simp [he']))
theorem inE_before : ∀ (l : List Int) (p : Bool) (t : Int), (∀ e ∈ l, t < e) → inE p l t = p
  | [], _, _, _ => rfl
  | e :: r, p, t, h => by
    unfold inE
    rw [if_neg (by have := h e (by simp); omega)]

theorem last_get (out : List Sp) : out = [] ∨ ∃ o z, out = o ++ [z] := by
  rcases List.eq_nil_or_concat out with h | ⟨o, z, h⟩
  · exact .inl h
  · exact .inr ⟨o, z, by rw [h]; simp⟩
theorem good_end : ∀ (o : List Sp) (last : Int) (z1 z2 y : Int), good last (o ++ [(z1, z2)]) → z2 ≤ y → y ≤ 1099511627776 → good last (o ++ [(z1, y)])
  | [], _, _, _, _, ⟨h1, h2, _, _⟩, h, h' => ⟨h1, by dsimp only at *; omega, h', trivial⟩
  | x :: r, _, z1, z2, y, ⟨h1, h2, h3, h4⟩, h, h' => ⟨h1, h2, h3, good_end r x.2 z1 z2 y h4 h h'⟩
/-- what is known of a piece that is added -/
theorem add_is {out : List Sp} {x y : Int} (hg : good (-1) out) (hx0 : 0 ≤ x) (hl : ∀ z ∈ out, z.2 ≤ x) (hxy : x < y) (hy : y ≤ 1099511627776) :
    good (-1) (addL out (x, y)) ∧ (∀ z ∈ addL out (x, y), z.2 ≤ y) ∧ ∀ t, inL (addL out (x, y)) t = (inL out t || (decide (x ≤ t) && decide (t < y))) := by
  rcases last_get out with rfl | ⟨o, z, rfl⟩
  · exact ⟨⟨by dsimp only; omega, hxy, hy, trivial⟩, by simp [addL], fun t => by simp [addL, inL]⟩
  · obtain ⟨z1, z2⟩ := z
    have hz := hl (z1, z2) (by simp)
    dsimp only at hz
    have hzz : z1 < z2 := by
      have : ∀ (o : List Sp) (last : Int), good last (o ++ [(z1, z2)]) → z1 < z2 := by
        intro o
        induction o with
        | nil => intro last h; exact h.2.1
        | cons w r ih => intro last h; exact ih _ h.2.2.2
      exact this o _ hg
    unfold addL
    rw [List.getLast?_concat]
    dsimp only
    by_cases c : z2 = x
    · rw [if_pos c, List.dropLast_concat]
      subst c
      refine ⟨good_end o _ z1 z2 y hg (by omega) hy, fun w hw => ?_, fun t => ?_⟩
      · rcases List.mem_append.1 hw with hw | hw
        · have := hl w (by simp [hw]); omega
        · simp at hw; subst hw; exact Int.le_refl _
      · rw [inL_append, inL_append]
        simp only [inL, List.any_cons, List.any_nil, Bool.or_false]
        generalize List.any o _ = g
        cases g
        all_goals
          by_cases c1 : z1 ≤ t <;> by_cases c2 : t < y <;> by_cases c3 : t < z2 <;> by_cases c4 : z2 ≤ t <;> simp [c1, c2, c3, c4] <;> omega
    · rw [if_neg c]
      refine ⟨good_snoc _ _ x y hg (by omega) (fun w hw => ?_) hxy hy, fun w hw => ?_, fun t => by rw [inL_append]; simp [inL]⟩
      · rcases List.mem_append.1 hw with hw | hw
        · have hw2 := hl w (by simp [hw])
          have : ∀ (o : List Sp) (last : Int), good last (o ++ [(z1, z2)]) → ∀ w ∈ o, w.2 < z1 := by
            intro o
            induction o with
            | nil => intro last _ w hw; cases hw
            | cons v r ih =>
              intro last h w hw
              rcases List.mem_cons.1 hw with rfl | hw
              · have h4 := h.2.2.2
                cases r with
                | nil => exact h4.1
                | cons u r' =>
                  have := ih _ h4 u (by simp)
                  have a1 := h4.1
                  have a2 := h4.2.1
                  omega
              · exact ih _ h.2.2.2 w hw
          have := this o _ hg w hw
          omega
        · simp at hw; subst hw; dsimp only; omega
      · rcases List.mem_append.1 hw with hw | hw
        · have := hl w hw; omega
        · simp at hw; subst hw; exact Int.le_refl _
theorem refGo_is {f : Bool → Bool → Bool} {a b : List Sp} (hf : f false false = false) (ha : good (-1) a) (hb : good (-1) b) : ∀ (L : List Int) (x : Int) (out : List Sp),
    (x :: L).Pairwise (· < ·) → (∀ e ∈ ends a, e ≤ x ∨ e ∈ L) → (∀ e ∈ ends b, e ≤ x ∨ e ∈ L) → (∀ e ∈ x :: L, 0 ≤ e ∧ e ≤ 1099511627776) → good (-1) out → (∀ z ∈ out, z.2 ≤ x) →
    (∀ t, inL out t = (decide (t < x) && f (inL a t) (inL b t))) → good (-1) (refGo f a b out (x :: L)) ∧ ∀ t, inL (refGo f a b out (x :: L)) t = f (inL a t) (inL b t)
  | [], x, out, _, h1, h2, _, hg, _, ht => by
    refine ⟨hg, fun t => ?_⟩
    unfold refGo
    rw [ht t]
    rcases Int.lt_or_le t x with h | h
    · simp [h]
    · have e1 : inL a t = false := by
        rw [inL_eq a _ t ha, inE_after _ _ _ (fun e he => by rcases h1 e he with h' | h'; omega; cases h'), par_ends]
      have e2 : inL b t = false := by
        rw [inL_eq b _ t hb, inE_after _ _ _ (fun e he => by rcases h2 e he with h' | h'; omega; cases h'), par_ends]
      rw [e1, e2, hf]; simp
  | y :: r, x, out, hs, h1, h2, hr, hg, hl, ht => by
    unfold refGo
    obtain ⟨hs1, hs2⟩ := List.pairwise_cons.1 hs
    have hxy : x < y := hs1 y (by simp)
    have hy := hr y (by simp)
    have hx := hr x (by simp)
    have hyr := (List.pairwise_cons.1 hs2).1
    have k1 : ∀ e ∈ ends a, e ≤ x ∨ y ≤ e := fun e he => by
      rcases h1 e he with h | h
      · exact .inl h
      · rcases List.mem_cons.1 h with rfl | h
        · exact .inr (Int.le_refl _)
        · have := hyr e h; exact .inr (by omega)
    have k2 : ∀ e ∈ ends b, e ≤ x ∨ y ≤ e := fun e he => by
      rcases h2 e he with h | h
      · exact .inl h
      · rcases List.mem_cons.1 h with rfl | h
        · exact .inr (Int.le_refl _)
        · have := hyr e h; exact .inr (by omega)
    have hc : ∀ t, x ≤ t → t < y → f (inL a t) (inL b t) = f (inL a x) (inL b x) := fun t t1 t2 => by
      rw [inL_eq a _ t ha, inL_eq b _ t hb, inL_eq a _ x ha, inL_eq b _ x hb, inE_const _ _ x y t k1 t1 t2, inE_const _ _ x y t k2 t1 t2]
    have g1 : ∀ e ∈ ends a, e ≤ y ∨ e ∈ r := fun e he => by
      rcases h1 e he with h | h
      · exact .inl (by omega)
      · rcases List.mem_cons.1 h with rfl | h
        · exact .inl (Int.le_refl _)
        · exact .inr h
    have g2 : ∀ e ∈ ends b, e ≤ y ∨ e ∈ r := fun e he => by
      rcases h2 e he with h | h
      · exact .inl (by omega)
      · rcases List.mem_cons.1 h with rfl | h
        · exact .inl (Int.le_refl _)
        · exact .inr h
    by_cases c : f (inL a x) (inL b x) = true
    · rw [if_pos c]
      obtain ⟨p1, p2, p3⟩ := add_is hg hx.1 hl hxy hy.2
      refine refGo_is hf ha hb r y _ hs2 g1 g2 (fun e he => hr e (List.mem_cons_of_mem _ he)) p1 p2 (fun t => ?_)
      rw [p3 t, ht t]
      by_cases t1 : x ≤ t
      · by_cases t2 : t < y
        · rw [hc t t1 t2, c]; simp [t1, t2]
        · have : ¬ t < x := by omega
          simp [t2, this]
      · have t2 : t < x := by omega
        have t3 : t < y := by omega
        simp [t1, t2, t3]
    · rw [if_neg c]
      refine refGo_is hf ha hb r y _ hs2 g1 g2 (fun e he => hr e (List.mem_cons_of_mem _ he)) hg (fun z hz => by have := hl z hz; omega) (fun t => ?_)
      rw [ht t]
      by_cases t1 : x ≤ t
      · by_cases t2 : t < y
        · have t3 : ¬ t < x := by omega
          rw [hc t t1 t2]
          simp [t2, t3, c]
        · have : ¬ t < x := by omega
          simp [t2, this]
      · have t2 : t < x := by omega
        have t3 : t < y := by omega
        simp [t2, t3]
theorem refU_eq {f : Bool → Bool → Bool} {a b : List Sp} (hf : f false false = false) (ha : good (-1) a) (hb : good (-1) b) : refU f a b = uni f a b := by
  have key : good (-1) (refU f a b) ∧ ∀ t, inL (refU f a b) t = f (inL a t) (inL b t) := by
    unfold refU
    have hm : ∀ x, x ∈ bordL (bordL [] a) b ↔ x ∈ ends a ∨ x ∈ ends b := fun x => by rw [bordL_mem, bordL_mem]; simp
    have hs : (bordL (bordL [] a) b).Pairwise (· < ·) := bordL_sorted b _ (bordL_sorted a _ (by simp))
    generalize bordL (bordL [] a) b = L at hm hs
    cases L with
    | nil =>
      refine ⟨trivial, fun t => ?_⟩
      have e1 : inL a t = false := by rw [inL_eq a _ t ha, inE_after _ _ _ (fun e he => by have := (hm e).2 (.inl he); cases this), par_ends]
      have e2 : inL b t = false := by rw [inL_eq b _ t hb, inE_after _ _ _ (fun e he => by have := (hm e).2 (.inr he); cases this), par_ends]
      rw [e1, e2, hf]; rfl
    | cons x L =>
      have hx := (List.pairwise_cons.1 hs).1
      refine refGo_is hf ha hb L x [] hs (fun e he => ?_) (fun e he => ?_) (fun e he => ?_) trivial (by simp) (fun t => ?_)
      · rcases List.mem_cons.1 ((hm e).2 (.inl he)) with rfl | h
        · exact .inl (Int.le_refl _)
        · exact .inr h
      · rcases List.mem_cons.1 ((hm e).2 (.inr he)) with rfl | h
        · exact .inl (Int.le_refl _)
        · exact .inr h
      · rcases (hm e).1 he with h | h
        · have := ends_low a _ ha e h; omega
        · have := ends_low b _ hb e h; omega
      · rcases Int.lt_or_le t x with h | h
        · have e1 : inL a t = false := by
            rw [inL_eq a _ t ha, inE_before]
            intro e he
            rcases List.mem_cons.1 ((hm e).2 (.inl he)) with rfl | h'
            · exact h
            · have := hx e h'; omega
          have e2 : inL b t = false := by
            rw [inL_eq b _ t hb, inE_before]
            intro e he
            rcases List.mem_cons.1 ((hm e).2 (.inr he)) with rfl | h'
            · exact h
            · have := hx e h'; omega
          rw [e1, e2, hf]; simp [inL]
        · have : ¬ t < x := by omega
          simp [inL, this]
  exact uni_eq hf ha hb key.1 key.2
end Go.Mine.S
