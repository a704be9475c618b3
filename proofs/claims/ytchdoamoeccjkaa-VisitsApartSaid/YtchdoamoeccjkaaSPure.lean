/-
  Layer 13 (spans), plainly: lists of spans as sets of times; the states of two lists; the result of a rule; one list for each set; how many times.
-/
namespace Go.Mine.S

abbrev Sp := Int × Int
def EndT : Int := 1099511627776
/-- right spans, in order, with gaps, all behind 'last' -/
def good (last : Int) : List Sp → Prop
  | [] => True
  | x :: r => last < x.1 ∧ x.1 < x.2 ∧ x.2 ≤ 1099511627776 ∧ good x.2 r
def inL (l : List Sp) (t : Int) : Bool := l.any fun x => decide (x.1 ≤ t) && decide (t < x.2)

theorem inL_cons (x : Sp) (r : List Sp) (t : Int) : inL (x :: r) t = ((decide (x.1 ≤ t) && decide (t < x.2)) || inL r t) := rfl
theorem inL_append (a b : List Sp) (t : Int) : inL (a ++ b) t = (inL a t || inL b t) := by simp [inL]
theorem good_low : ∀ (l : List Sp) (last t : Int), good last l → t ≤ last → inL l t = false
  | [], _, _, _, _ => rfl
  | x :: r, last, t, h, ht => by
    obtain ⟨h1, h2, h3, h4⟩ := h
    rw [inL_cons, good_low r x.2 t h4 (by omega)]
    have : decide (x.1 ≤ t) = false := by simp; omega
    simp [this]
theorem good_mono : ∀ (l : List Sp) (last last' : Int), last' ≤ last → good last l → good last' l
  | [], _, _, _, _ => trivial
  | _ :: _, _, _, hle, ⟨h1, h2, h3, h4⟩ => ⟨by omega, h2, h3, h4⟩
theorem good_high : ∀ (l : List Sp) (last t : Int), good last l → 1099511627776 ≤ t → inL l t = false
  | [], _, _, _, _ => rfl
  | x :: r, last, t, h, ht => by
    obtain ⟨h1, h2, h3, h4⟩ := h
    rw [inL_cons, good_high r x.2 t h4 ht]
    have : decide (t < x.2) = false := by simp; omega
    simp [this]

/-- one list for each set of times -/
theorem good_one : ∀ (a b : List Sp) (la lb : Int), good la a → good lb b → (∀ t, inL a t = inL b t) → a = b
  | [], [], _, _, _, _, _ => rfl
  | [], y :: s, _, lb, _, hb, h => by
    obtain ⟨h1, h2, h3, h4⟩ := hb
    have := h y.1
    rw [inL_cons] at this
    simp [inL, h2] at this
  | x :: r, [], la, _, ha, _, h => by
    obtain ⟨h1, h2, h3, h4⟩ := ha
    have := h x.1
    rw [inL_cons] at this
    simp [inL, h2] at this
  | x :: r, y :: s, la, lb, ha, hb, h => by
    obtain ⟨a1, a2, a3, a4⟩ := ha
    obtain ⟨b1, b2, b3, b4⟩ := hb
    have e1 : x.1 = y.1 := by
      rcases Int.lt_trichotomy x.1 y.1 with hlt | heq | hgt
      · have := h x.1
        rw [inL_cons, inL_cons, good_low s y.2 x.1 b4 (by omega)] at this
        have d1 : decide (y.1 ≤ x.1) = false := by simp; omega
        simp [d1, a2] at this
      · exact heq
      · have := h y.1
        rw [inL_cons, inL_cons, good_low r x.2 y.1 a4 (by omega)] at this
        have d1 : decide (x.1 ≤ y.1) = false := by simp; omega
        simp [d1, b2] at this
    have e2 : x.2 = y.2 := by
      rcases Int.lt_trichotomy x.2 y.2 with hlt | heq | hgt
      · have := h x.2
        rw [inL_cons, inL_cons, good_low r x.2 x.2 a4 (Int.le_refl _), good_low s y.2 x.2 b4 (by omega)] at this
        have d1 : decide (y.1 ≤ x.2) = true := by simp; omega
        simp [d1, hlt] at this
      · exact heq
      · have := h y.2
        rw [inL_cons, inL_cons, good_low r x.2 y.2 a4 (by omega), good_low s y.2 y.2 b4 (Int.le_refl _)] at this
        have d1 : decide (x.1 ≤ y.2) = true := by simp; omega
        simp [d1, hgt] at this
    have exy : x = y := Prod.ext e1 e2
    subst exy
    congr 1
    refine good_one r s x.2 x.2 a4 b4 fun t => ?_
    rcases Int.lt_or_le x.2 t with ht | ht
    · have := h t
      rw [inL_cons, inL_cons] at this
      have d1 : decide (t < x.2) = false := by simp; omega
      simpa [d1] using this
    · rw [good_low r x.2 t a4 ht, good_low s x.2 t b4 ht]

/-! ### states -/
def ends : List Sp → List Int
  | [] => []
  | x :: r => x.1 :: x.2 :: ends r
theorem ends_length (l : List Sp) : (ends l).length = 2 * l.length := by
  induction l with
  | nil => rfl
  | cons x r ih => simp only [ends, List.length_cons, ih]; omega
/-- the membership that toggles at each place -/
def inE (p : Bool) : List Int → Int → Bool
  | [], _ => p
  | x :: r, t => if x ≤ t then inE (!p) r t else p
theorem inE_low : ∀ (l : List Sp) (last t : Int), good last l → t ≤ last → inE false (ends l) t = false
  | [], _, _, _, _ => rfl
  | x :: r, last, t, h, ht => by
    obtain ⟨h1, _⟩ := h
    unfold ends inE
    rw [if_neg (by omega)]
theorem inL_eq : ∀ (l : List Sp) (last t : Int), good last l → inL l t = inE false (ends l) t
  | [], _, _, _ => rfl
  | x :: r, last, t, h => by
    obtain ⟨h1, h2, h3, h4⟩ := h
    rw [inL_cons]
    unfold ends inE inE
    by_cases c1 : x.1 ≤ t
    · rw [if_pos c1]
      by_cases c2 : x.2 ≤ t
      · rw [if_pos c2]
        have d : decide (t < x.2) = false := by simp; omega
        rw [inL_eq r x.2 t h4]
        simp [d]
      · rw [if_neg c2]
        have d : decide (t < x.2) = true := by simp; omega
        simp [d, c1]
    · rw [if_neg c1]
      have d : decide (x.1 ≤ t) = false := by simp; omega
      rw [good_low r x.2 t h4 (by omega)]
      simp [d]
abbrev St := Int × Bool × Bool
/-- the states of two lists of places -/
def st (p q : Bool) : List Int → List Int → List St
  | [], [] => []
  | x :: xs, [] => (x, !p, q) :: st (!p) q xs []
  | [], y :: ys => (y, p, !q) :: st p (!q) [] ys
  | x :: xs, y :: ys => if x < y then (x, !p, q) :: st (!p) q xs (y :: ys) else if y < x then (y, p, !q) :: st p (!q) (x :: xs) ys else (x, !p, !q) :: st (!p) (!q) xs ys
termination_by xs ys => xs.length + ys.length
def cur (f : Bool → Bool → Bool) (c : Bool) : List St → Int → Bool
  | [], _ => c
  | s :: r, t => if s.1 ≤ t then cur f (f s.2.1 s.2.2) r t else c
theorem cur_st (f : Bool → Bool → Bool) (p q : Bool) (xs ys : List Int) (t : Int) (hx : xs.Pairwise (· < ·)) (hy : ys.Pairwise (· < ·)) : cur f (f p q) (st p q xs ys) t = f (inE p xs t) (inE q ys t) := by
  fun_induction st p q xs ys with
  | case1 p q => rfl
  | case2 p q x xs ih =>
    unfold cur inE
    dsimp only
    by_cases c : x ≤ t
    · rw [if_pos c, if_pos c]; exact ih (List.pairwise_cons.1 hx).2 hy
    · rw [if_neg c, if_neg c]
  | case3 p q y ys ih =>
    unfold cur inE
    dsimp only
    by_cases c : y ≤ t
    · rw [if_pos c, if_pos c]; exact ih hx (List.pairwise_cons.1 hy).2
    · rw [if_neg c, if_neg c]
  | case4 p q x xs y ys hlt ih =>
    unfold cur
    dsimp only
    by_cases c : x ≤ t
    · rw [if_pos c, ih (List.pairwise_cons.1 hx).2 hy]
      congr 1
      conv => rhs; unfold inE
      rw [if_pos c]
    · rw [if_neg c]
      have c2 : ¬ y ≤ t := by omega
      unfold inE
      rw [if_neg c, if_neg c2]
  | case5 p q x xs y ys hlt hgt ih =>
    unfold cur
    dsimp only
    by_cases c : y ≤ t
    · rw [if_pos c, ih hx (List.pairwise_cons.1 hy).2]
      congr 1
      conv => rhs; unfold inE
      rw [if_pos c]
    · rw [if_neg c]
      have c2 : ¬ x ≤ t := by omega
      unfold inE
      rw [if_neg c, if_neg c2]
  | case6 p q x xs y ys hlt hgt ih =>
    have hxy : x = y := by omega
    subst hxy
    unfold cur
    dsimp only
    by_cases c : x ≤ t
    · rw [if_pos c, ih (List.pairwise_cons.1 hx).2 (List.pairwise_cons.1 hy).2]
      congr 1
      · conv => rhs; unfold inE
        rw [if_pos c]
      · conv => rhs; unfold inE
        rw [if_pos c]
    · rw [if_neg c]
      unfold inE
      rw [if_neg c, if_neg c]
/-! ### the result of a rule -/
def resGo (f : Bool → Bool → Bool) (o : Int) (acc : List Sp) : List St → List Sp
  | [] => acc
  | s :: r => if f s.2.1 s.2.2 = true then (if o < 0 then resGo f s.1 acc r else resGo f o acc r) else (if 0 ≤ o then resGo f (-1) (acc ++ [(o, s.1)]) r else resGo f o acc r)
def fin (f : Bool → Bool → Bool) (c : Bool) : List St → Bool
  | [] => c
  | s :: r => fin f (f s.2.1 s.2.2) r
def opn (c : Bool) (o : Int) : Prop := (c = true → 0 ≤ o) ∧ (c = false → o = -1)
theorem cur_low (f : Bool → Bool → Bool) (c : Bool) (S : List St) (t : Int) (h : ∀ s ∈ S, t < s.1) : cur f c S t = c := by
  cases S with
  | nil => rfl
  | cons s r => unfold cur; rw [if_neg (by have := h s (by simp); omega)]
/-- times of the result -/
theorem res_in (f : Bool → Bool → Bool) (t : Int) : ∀ (S : List St) (o : Int) (acc : List Sp) (c : Bool), opn c o → (S.map (·.1)).Pairwise (· < ·) → (∀ s ∈ S, 0 ≤ s.1 ∧ (c = true → o < s.1)) → fin f c S = false →
    inL (resGo f o acc S) t = (inL acc t || ((!c || decide (o ≤ t)) && cur f c S t))
  | [], o, acc, c, ho, _, _, hf => by
    have hc : c = false := hf
    subst hc
    simp [resGo, cur]
  | s :: r, o, acc, c, ho, hs, hb, hf => by
    obtain ⟨u, a, b⟩ := s
    rw [List.map_cons, List.pairwise_cons] at hs
    obtain ⟨hs1, hs2⟩ := hs
    have hu := hb (u, a, b) (by simp)
    dsimp only at hu
    have hr : ∀ s ∈ r, u < s.1 := fun s hs' => hs1 s.1 (List.mem_map.2 ⟨s, hs', rfl⟩)
    unfold fin at hf
    dsimp only at hf
    unfold resGo
    dsimp only
    unfold cur
    dsimp only
    cases hfab : f a b
    · rw [hfab] at hf
      simp only [Bool.false_eq_true, if_false]
      cases c
      · have h1 := ho.2 rfl
        rw [if_neg (by omega)]
        rw [res_in f t r o acc false ⟨by simp, fun _ => h1⟩ hs2 (fun s hs' => ⟨(hb s (by simp [hs'])).1, by simp⟩) hf]
        by_cases c1 : u ≤ t
        · rw [if_pos c1]
        · rw [if_neg c1, cur_low f false r t (fun s hs' => by have := hr s hs'; omega)]
      · have h1 := ho.1 rfl
        have h2 := hu.2 rfl
        rw [if_pos h1]
        rw [res_in f t r (-1) (acc ++ [(o, u)]) false ⟨by simp, fun _ => rfl⟩ hs2 (fun s hs' => ⟨(hb s (by simp [hs'])).1, by simp⟩) hf]
        rw [inL_append]
        by_cases c1 : u ≤ t
        · rw [if_pos c1]
          have d1 : decide (t < u) = false := by simp; omega
          have d2 : decide (o ≤ t) = true := by simp; omega
          simp [inL, d1, d2]
        · rw [if_neg c1, cur_low f false r t (fun s hs' => by have := hr s hs'; omega)]
          have d1 : decide (t < u) = true := by simp; omega
          simp [inL, d1]
    · rw [hfab] at hf
      simp only [if_true]
      cases c
      · have h1 := ho.2 rfl
        rw [if_pos (by omega)]
        rw [res_in f t r u acc true ⟨fun _ => hu.1, by simp⟩ hs2 (fun s hs' => ⟨(hb s (by simp [hs'])).1, fun _ => hr s hs'⟩) hf]
        by_cases c1 : u ≤ t
        · rw [if_pos c1]; simp [c1]
        · rw [if_neg c1]; simp [c1]
      · have h1 := ho.1 rfl
        rw [if_neg (by omega)]
        rw [res_in f t r o acc true ⟨fun _ => h1, by simp⟩ hs2 (fun s hs' => ⟨(hb s (by simp [hs'])).1, fun _ => by have := hr s hs'; have := hu.2 rfl; omega⟩) hf]
        by_cases c1 : u ≤ t
        · rw [if_pos c1]
        · rw [if_neg c1, cur_low f true r t (fun s hs' => by have := hr s hs'; omega)]

theorem good_snoc : ∀ (l : List Sp) (last : Int) (o u : Int), good last l → last < o → (∀ x ∈ l, x.2 < o) → o < u → u ≤ 1099511627776 → good last (l ++ [(o, u)])
  | [], _, _, _, _, h1, _, h3, h4 => ⟨h1, h3, h4, trivial⟩
  | x :: r, _, o, u, ⟨a1, a2, a3, a4⟩, h1, h2, h3, h4 => ⟨a1, a2, a3, good_snoc r x.2 o u a4 (h2 x (by simp)) (fun y hy => h2 y (by simp [hy])) h3 h4⟩
theorem res_good (f : Bool → Bool → Bool) : ∀ (S : List St) (o : Int) (acc : List Sp) (c : Bool), opn c o → (S.map (·.1)).Pairwise (· < ·) → (∀ s ∈ S, 0 ≤ s.1 ∧ s.1 ≤ 1099511627776 ∧ (c = true → o < s.1)) → good (-1) acc →
    (∀ x ∈ acc, (c = true → x.2 < o) ∧ ∀ s ∈ S, x.2 < s.1) → good (-1) (resGo f o acc S)
  | [], _, _, _, _, _, _, h, _ => h
  | s :: r, o, acc, c, ho, hs, hb, hg, hx => by
    obtain ⟨u, a, b⟩ := s
    rw [List.map_cons, List.pairwise_cons] at hs
    obtain ⟨hs1, hs2⟩ := hs
    have hu := hb (u, a, b) (by simp)
    dsimp only at hu
    have hr : ∀ s ∈ r, u < s.1 := fun s hs' => hs1 s.1 (List.mem_map.2 ⟨s, hs', rfl⟩)
    have hx2 : ∀ x ∈ acc, ∀ s ∈ r, x.2 < s.1 := fun x hx' s hs' => (hx x hx').2 s (by simp [hs'])
    unfold resGo
    dsimp only
    cases hfab : f a b
    · simp only [Bool.false_eq_true, if_false]
      cases c
      · have h1 := ho.2 rfl
        rw [if_neg (by omega)]
        exact res_good f r o acc false ⟨by simp, fun _ => h1⟩ hs2 (fun s hs' => ⟨(hb s (by simp [hs'])).1, (hb s (by simp [hs'])).2.1, by simp⟩) hg (fun x hx' => ⟨by simp, hx2 x hx'⟩)
      · have h1 := ho.1 rfl
        have h2 := hu.2.2 rfl
        rw [if_pos h1]
        refine res_good f r (-1) _ false ⟨by simp, fun _ => rfl⟩ hs2 (fun s hs' => ⟨(hb s (by simp [hs'])).1, (hb s (by simp [hs'])).2.1, by simp⟩) (good_snoc acc (-1) o u hg (by omega) (fun x hx' => (hx x hx').1 rfl) h2 hu.2.1) (fun x hx' => ⟨by simp, fun s hs' => ?_⟩)
        rcases List.mem_append.1 hx' with hx' | hx'
        · exact hx2 x hx' s hs'
        · simp at hx'; subst hx'; exact hr s hs'
    · simp only [if_true]
      cases c
      · have h1 := ho.2 rfl
        rw [if_pos (by omega)]
        exact res_good f r u acc true ⟨fun _ => hu.1, by simp⟩ hs2 (fun s hs' => ⟨(hb s (by simp [hs'])).1, (hb s (by simp [hs'])).2.1, fun _ => hr s hs'⟩) hg (fun x hx' => ⟨fun _ => (hx x hx').2 (u, a, b) (by simp), hx2 x hx'⟩)
      · have h1 := ho.1 rfl
        rw [if_neg (by omega)]
        exact res_good f r o acc true ⟨fun _ => h1, by simp⟩ hs2 (fun s hs' => ⟨(hb s (by simp [hs'])).1, (hb s (by simp [hs'])).2.1, fun _ => by have := hr s hs'; have := hu.2.2 rfl; omega⟩) hg (fun x hx' => ⟨fun _ => (hx x hx').1 rfl, hx2 x hx'⟩)
theorem res_length (f : Bool → Bool → Bool) : ∀ (S : List St) (o : Int) (acc : List Sp), 2 * (resGo f o acc S).length ≤ 2 * acc.length + S.length + (if 0 ≤ o then 1 else 0)
  | [], o, acc => by unfold resGo; omega
  | s :: r, o, acc => by
    unfold resGo
    have h1 := res_length f r s.1 acc
    have h2 := res_length f r o acc
    have h3 := res_length f r (-1) (acc ++ [(o, s.1)])
    simp only [List.length_append, List.length_cons, List.length_nil] at h3 ⊢
    split
    · split
      · split at h1 <;> split <;> omega
      · split at h2 <;> split <;> omega
    · split
      · simp at h3; omega
      · split at h2 <;> omega
/-! ### how many times -/
def tot : List Sp → Int
  | [] => 0
  | x :: r => x.2 - x.1 + tot r
theorem tot_append : ∀ (a b : List Sp), tot (a ++ b) = tot a + tot b
  | [], b => by simp [tot]
  | x :: r, b => by simp only [List.cons_append, tot, tot_append r b]; omega
def mS (f : Bool → Bool → Bool) (c : Bool) (u0 : Int) : List St → Int
  | [] => 0
  | s :: r => (if c = true then s.1 - u0 else 0) + mS f (f s.2.1 s.2.2) s.1 r
theorem res_tot (f : Bool → Bool → Bool) : ∀ (S : List St) (o : Int) (acc : List Sp) (c : Bool) (u0 : Int), opn c o → (∀ s ∈ S, 0 ≤ s.1) → fin f c S = false → tot (resGo f o acc S) = tot acc + (if c = true then u0 - o else 0) + mS f c u0 S
  | [], o, acc, c, u0, ho, _, hf => by
    have hc : c = false := hf
    subst hc
    simp [resGo, mS]
  | s :: r, o, acc, c, u0, ho, hb, hf => by
    obtain ⟨u, a, b⟩ := s
    have hu := hb (u, a, b) (by simp)
    dsimp only at hu
    have hb' : ∀ s ∈ r, 0 ≤ s.1 := fun s hs => hb s (by simp [hs])
    unfold fin at hf
    dsimp only at hf
    unfold resGo mS
    dsimp only
    cases hfab : f a b
    · rw [hfab] at hf
      simp only [Bool.false_eq_true, if_false]
      cases c
      · have h1 := ho.2 rfl
        rw [if_neg (by omega), res_tot f r o acc false u ⟨by simp, fun _ => h1⟩ hb' hf]
        simp
      · have h1 := ho.1 rfl
        rw [if_pos h1, res_tot f r (-1) _ false u ⟨by simp, fun _ => rfl⟩ hb' hf, tot_append]
        simp [tot]; omega
    · rw [hfab] at hf
      simp only [if_true]
      cases c
      · have h1 := ho.2 rfl
        rw [if_pos (by omega), res_tot f r u acc true u ⟨fun _ => hu, by simp⟩ hb' hf]
        simp
      · have h1 := ho.1 rfl
        rw [if_neg (by omega), res_tot f r o acc true u ⟨fun _ => h1, by simp⟩ hb' hf]
        simp; omega
theorem mS_or : ∀ (S : List St) (p q : Bool) (u0 : Int), mS (fun a b => a || b) (p || q) u0 S + mS (fun a b => a && b) (p && q) u0 S = mS (fun a _ => a) p u0 S + mS (fun _ b => b) q u0 S
  | [], _, _, _ => rfl
  | s :: r, p, q, u0 => by
    have := mS_or r s.2.1 s.2.2 s.1
    unfold mS
    cases p <;> cases q <;> simp at this ⊢ <;> omega
theorem mS_minus : ∀ (S : List St) (p q : Bool) (u0 : Int), mS (fun a b => a && b) (p && q) u0 S + mS (fun a b => a && !b) (p && !q) u0 S = mS (fun a _ => a) p u0 S
  | [], _, _, _ => rfl
  | s :: r, p, q, u0 => by
    have := mS_minus r s.2.1 s.2.2 s.1
    unfold mS
    cases p <;> cases q <;> simp at this ⊢ <;> omega
theorem tot_bound : ∀ (l : List Sp) (last : Int), good last l → 0 ≤ tot l ∧ tot l ≤ (if l = [] then 0 else 1099511627776 - last)
  | [], _, _ => by simp [tot]
  | x :: r, last, ⟨h1, h2, h3, h4⟩ => by
    have := tot_bound r x.2 h4
    unfold tot
    by_cases hr : r = []
    · subst hr; simp [tot] at this ⊢; omega
    · rw [if_neg hr] at this
      simp; omega
end Go.Mine.S
