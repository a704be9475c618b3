/-
  Layer 42 (queue), plainly: jobs, what is worked on when, spans that are too full.
  queue, plainly: the run, and why it ends.
  queue, plainly: who is done first is done in time, unless a span is too full.
  queue, plainly: schedules that are accepted.
  queue, plainly: fewer jobs, easier jobs, all jobs later.
  queue, plainly: what is due first is done first.
  queue, plainly: what the run of the reference keeps.
  queue, plainly: the run as the program walks it, from one time at which a job becomes ready to the next.
  queue, plainly: how many pieces there are, whose they are; jobs by number, one after another.
  queue, plainly: the first span that is too full.
  shed, plainly: which jobs are kept; in time or not.
  Jobs that are all ready at one time, plainly: they can be done exactly if what is due by each time needs no more than there is.
-/
namespace Go.Mine.Q
structure Jb where
  no : Int
  ready : Int
  due : Int
  need : Int
  alt : Bool
structure Tk where
  j : Jb
  left : Int
structure Pc where
  j : Jb
  f : Int
  u : Int
structure Sx where
  no : Int
  f : Int
  u : Int
deriving DecidableEq
/-! ### sums -/
def sumF {α : Type} (f : α → Int) : List α → Int
  | [] => 0
  | x :: l => f x + sumF f l
theorem sumF_nonneg {α : Type} {f : α → Int} : ∀ {l : List α}, (∀ x ∈ l, 0 ≤ f x) → 0 ≤ sumF f l
  | [], _ => by simp [sumF]
  | x :: l, h => by
    have := sumF_nonneg (l := l) fun y hy => h y (by simp [hy])
    have := h x (by simp)
    simp only [sumF]; omega
theorem sumF_le {α : Type} {f g : α → Int} : ∀ {l : List α}, (∀ x ∈ l, f x ≤ g x) → sumF f l ≤ sumF g l
  | [], _ => by simp [sumF]
  | x :: l, h => by
    have := sumF_le (l := l) fun y hy => h y (by simp [hy])
    have := h x (by simp)
    simp only [sumF]; omega
theorem sumF_congr {α : Type} {f g : α → Int} : ∀ {l : List α}, (∀ x ∈ l, f x = g x) → sumF f l = sumF g l
  | [], _ => rfl
  | x :: l, h => by
    have h1 := sumF_congr (l := l) fun y hy => h y (by simp [hy])
    have h2 := h x (by simp)
    simp only [sumF]; omega
theorem sumF_add {α : Type} (f g : α → Int) : ∀ l : List α, sumF (fun x => f x + g x) l = sumF f l + sumF g l
  | [] => rfl
  | x :: l => by simp only [sumF, sumF_add f g l]; omega
theorem sumF_append {α : Type} (f : α → Int) : ∀ a b : List α, sumF f (a ++ b) = sumF f a + sumF f b
  | [], b => by simp [sumF]
  | x :: a, b => by simp only [List.cons_append, sumF, sumF_append f a b]; omega
theorem sumF_set {α : Type} (f : α → Int) : ∀ {l : List α} {i : Nat} {x y : α}, l[i]? = some x → sumF f (l.set i y) = sumF f l - f x + f y
  | [], i, _, _, h => by simp at h
  | z :: l, 0, x, y, h => by
    simp at h; subst h
    simp only [List.set_cons_zero, sumF]; omega
  | z :: l, i + 1, x, y, h => by
    simp at h
    simp only [List.set_cons_succ, sumF, sumF_set f (l := l) (y := y) h]; omega
theorem sumF_mem {α : Type} {f : α → Int} : ∀ {l : List α} {i : Nat} {x : α}, l[i]? = some x → (∀ y ∈ l, 0 ≤ f y) → f x ≤ sumF f l
  | [], i, _, h, _ => by simp at h
  | z :: l, 0, x, h, hn => by
    simp at h; subst h
    have := sumF_nonneg (l := l) fun y hy => hn y (by simp [hy])
    simp only [sumF]; omega
  | z :: l, i + 1, x, h, hn => by
    simp at h
    have h1 := sumF_mem (l := l) h fun y hy => hn y (by simp [hy])
    have h2 := hn z (by simp)
    simp only [sumF]; omega
theorem sumF_map {α β : Type} (g : α → β) (f : β → Int) : ∀ l : List α, sumF f (l.map g) = sumF (fun x => f (g x)) l
  | [] => rfl
  | x :: l => by simp only [List.map_cons, sumF, sumF_map g f l]
theorem sumF_sublist {α : Type} {f : α → Int} : ∀ {a b : List α}, a.Sublist b → (∀ y ∈ b, 0 ≤ f y) → sumF f a ≤ sumF f b
  | _, _, .slnil, _ => by simp [sumF]
  | _, _, .cons x h, hn => by
    have h1 := sumF_sublist h fun y hy => hn y (by simp [hy])
    have h2 := hn x (by simp)
    simp only [sumF]; omega
  | _, _, .cons_cons x h, hn => by
    have h1 := sumF_sublist h fun y hy => hn y (by simp [hy])
    simp only [sumF]; omega
theorem sumF_bound {α : Type} {f : α → Int} {c : Int} : ∀ {l : List α}, (∀ y ∈ l, f y ≤ c) → sumF f l ≤ l.length * c
  | [], _ => by simp [sumF]
  | x :: l, h => by
    have h1 := sumF_bound (l := l) fun y hy => h y (by simp [hy])
    have h2 := h x (by simp)
    simp only [sumF, List.length_cons, Int.natCast_add, Int.add_mul]
    omega
/-! ### right jobs -/
def rightJ (x : Jb) : Bool := decide (0 ≤ x.no) && (decide (x.no ≤ 1048576) && (decide (0 ≤ x.ready) && (decide (x.ready < x.due) && (decide (x.due ≤ 1099511627776) && (decide (1 ≤ x.need) && decide (x.need ≤ 1048576))))))
theorem rightJ_iff {x : Jb} : rightJ x = true ↔ 0 ≤ x.no ∧ x.no ≤ 1048576 ∧ 0 ≤ x.ready ∧ x.ready < x.due ∧ x.due ≤ 1099511627776 ∧ 1 ≤ x.need ∧ x.need ≤ 1048576 := by simp [rightJ]
def incJ : Int → List Jb → Bool
  | _, [] => true
  | m, x :: l => decide (m < x.no) && incJ x.no l
theorem incJ_iff : ∀ (l : List Jb) (m : Int), incJ m l = true ↔ (∀ x ∈ l, m < x.no) ∧ l.Pairwise (fun x y => x.no < y.no)
  | [], m => by simp [incJ]
  | x :: l, m => by
    simp only [incJ, Bool.and_eq_true, decide_eq_true_eq, incJ_iff l, List.forall_mem_cons, List.pairwise_cons]
    constructor
    · rintro ⟨h1, h2, h3⟩; exact ⟨⟨h1, fun y hy => by have := h2 y hy; omega⟩, h2, h3⟩
    · rintro ⟨⟨h1, h2⟩, h3, h4⟩; exact ⟨h1, h3, h4⟩
def okL (l : List Jb) : Bool := l.all rightJ && incJ (-1) l
theorem okL_iff {l : List Jb} : okL l = true ↔ (∀ x ∈ l, rightJ x = true) ∧ l.Pairwise (fun x y => x.no < y.no) := by
  unfold okL
  rw [Bool.and_eq_true, List.all_eq_true, incJ_iff]
  constructor
  · rintro ⟨h1, _, h2⟩; exact ⟨h1, h2⟩
  · rintro ⟨h1, h2⟩; exact ⟨h1, fun x hx => by have := (rightJ_iff.1 (h1 x hx)).1; omega, h2⟩
theorem okL_sub {l m : List Jb} (h : okL l = true) (hm : m.Sublist l) : okL m = true := by
  rw [okL_iff] at *
  exact ⟨fun x hx => h.1 x (hm.subset hx), h.2.sublist hm⟩
def chk (l : List Jb) : Int := if 64 < l.length then 2 else if okL l = true then 0 else 420
theorem chk_zero {l : List Jb} : chk l = 0 ↔ l.length ≤ 64 ∧ okL l = true := by
  unfold chk
  constructor
  · intro h
    by_cases h1 : 64 < l.length
    · rw [if_pos h1] at h; omega
    · rw [if_neg h1] at h
      by_cases h2 : okL l = true
      · exact ⟨by omega, h2⟩
      · rw [if_neg h2] at h; omega
  · rintro ⟨h1, h2⟩
    rw [if_neg (by omega), if_pos h2]
/-! ### spans -/
def inS (a b : Int) (x : Jb) : Bool := decide (a ≤ x.ready) && decide (x.due ≤ b)
def wrk (l : List Jb) (a b : Int) : Int := sumF (fun x => if inS a b x = true then x.need else 0) l
def full (l : List Jb) (a b : Int) : Bool := decide (0 ≤ a) && (decide (a < b) && (decide (b ≤ 1099511627776) && decide (b - a < wrk l a b)))
theorem full_iff {l : List Jb} {a b : Int} : full l a b = true ↔ 0 ≤ a ∧ a < b ∧ b ≤ 1099511627776 ∧ b - a < wrk l a b := by simp [full]
/-! ### what is worked on -/
def avail (t : Int) (x : Tk) : Bool := decide (x.j.ready ≤ t) && decide (0 < x.left)
theorem avail_iff {t : Int} {x : Tk} : avail t x = true ↔ x.j.ready ≤ t ∧ 0 < x.left := by simp [avail]
/-- one more -/
def upd (t : Int) (i : Nat) (x : Tk) (best : Option (Nat × Tk)) : Option (Nat × Tk) :=
  if avail t x = true then (match best with | none => some (i, x) | some (k, y) => if x.j.due < y.j.due then some (i, x) else some (k, y)) else best
/-- the best one so far, and its place -/
def pickGo (t : Int) : List Tk → Nat → Option (Nat × Tk) → Option (Nat × Tk)
  | [], _, best => best
  | x :: l, i, best => pickGo t l (i + 1) (upd t i x best)
def pick (t : Int) (ts : List Tk) : Option (Nat × Tk) := pickGo t ts 0 none
/-- at a place is the best one -/
def Best (t : Int) (ts : List Tk) (i : Nat) (x : Tk) : Prop :=
  ts[i]? = some x ∧ avail t x = true ∧ ∀ (k : Nat) (y : Tk), ts[k]? = some y → avail t y = true → x.j.due < y.j.due ∨ (x.j.due = y.j.due ∧ i ≤ k)
theorem Best.unique {t : Int} {ts : List Tk} {i k : Nat} {x y : Tk} (h : Best t ts i x) (g : Best t ts k y) : i = k ∧ x = y := by
  obtain ⟨h1, h2, h3⟩ := h
  obtain ⟨g1, g2, g3⟩ := g
  have a := h3 k y g1 g2
  have b := g3 i x h1 h2
  have e : i = k := by omega
  subst e
  rw [h1] at g1
  exact ⟨rfl, Option.some.inj g1⟩
/-- what is known of the best one of a beginning -/
def PG (t : Int) (pre : List Tk) : Option (Nat × Tk) → Prop
  | none => ∀ y ∈ pre, avail t y = false
  | some (i, x) => Best t pre i x
theorem PG_next {t : Int} {pre : List Tk} {best : Option (Nat × Tk)} (h : PG t pre best) (x : Tk) :
    PG t (pre ++ [x]) (upd t pre.length x best) := by
  unfold upd
  have hlast : ∀ (k : Nat) (y : Tk), (pre ++ [x])[k]? = some y → pre[k]? = some y ∨ (k = pre.length ∧ y = x) := by
    intro k y hk
    by_cases hlt : k < pre.length
    · rw [List.getElem?_append_left hlt] at hk; exact .inl hk
    · rw [List.getElem?_append_right (by omega)] at hk
      have : k - pre.length = 0 := by
        rcases Nat.eq_zero_or_pos (k - pre.length) with h | h
        · exact h
        · rw [List.getElem?_eq_none (by simp; omega)] at hk; cases hk
      rw [this] at hk
      simp at hk
      exact .inr ⟨by omega, hk.symm⟩
  by_cases ha : avail t x = true
  · rw [if_pos ha]
    cases best with
    | none =>
      refine ⟨by simp, ha, fun k y hk hy => ?_⟩
      rcases hlast k y hk with h1 | ⟨h1, h2⟩
      · have := h y (List.mem_of_getElem? h1); rw [this] at hy; cases hy
      · subst h2; right; exact ⟨rfl, by omega⟩
    | some p =>
      obtain ⟨k0, y0⟩ := p
      obtain ⟨b1, b2, b3⟩ := h
      simp only
      have hk0 : k0 < pre.length := (List.getElem?_eq_some_iff.1 b1).1
      by_cases hd : x.j.due < y0.j.due
      · rw [if_pos hd]
        refine ⟨by simp, ha, fun k y hk hy => ?_⟩
        rcases hlast k y hk with h1 | ⟨h1, h2⟩
        · have := b3 k y h1 hy; left; omega
        · subst h2; right; exact ⟨rfl, by omega⟩
      · rw [if_neg hd]
        refine ⟨by rw [List.getElem?_append_left hk0]; exact b1, b2, fun k y hk hy => ?_⟩
        rcases hlast k y hk with h1 | ⟨h1, h2⟩
        · exact b3 k y h1 hy
        · subst h2; omega
  · have hf : avail t x = false := by simpa using ha
    rw [if_neg ha]
    cases best with
    | none =>
      intro y hy
      rcases List.mem_append.1 hy with hy | hy
      · exact h y hy
      · simp at hy; subst hy; exact hf
    | some p =>
      obtain ⟨k0, y0⟩ := p
      obtain ⟨b1, b2, b3⟩ := h
      have hk0 : k0 < pre.length := (List.getElem?_eq_some_iff.1 b1).1
      refine ⟨by rw [List.getElem?_append_left hk0]; exact b1, b2, fun k y hk hy => ?_⟩
      rcases hlast k y hk with h1 | ⟨h1, h2⟩
      · exact b3 k y h1 hy
      · subst h2; rw [hf] at hy; cases hy
theorem pickGo_PG (t : Int) : ∀ (ts pre : List Tk) (best : Option (Nat × Tk)), PG t pre best → PG t (pre ++ ts) (pickGo t ts pre.length best)
  | [], pre, best, h => by simpa [pickGo] using h
  | x :: ts, pre, best, h => by
    have := pickGo_PG t ts (pre ++ [x]) _ (PG_next h x)
    simpa [pickGo] using this
theorem pick_PG (t : Int) (ts : List Tk) : PG t ts (pick t ts) := by
  have := pickGo_PG t ts [] none (by intro y hy; simp at hy)
  simpa [pick] using this
theorem pick_none {t : Int} {ts : List Tk} (h : pick t ts = none) : ∀ y ∈ ts, avail t y = false := by
  have := pick_PG t ts; rw [h] at this; exact this
theorem pick_some {t : Int} {ts : List Tk} {i : Nat} {x : Tk} (h : pick t ts = some (i, x)) : Best t ts i x := by
  have := pick_PG t ts; rw [h] at this; exact this
theorem pick_of_best {t : Int} {ts : List Tk} {i : Nat} {x : Tk} (h : Best t ts i x) : pick t ts = some (i, x) := by
  cases hp : pick t ts with
  | none =>
    have := pick_none hp x (List.mem_of_getElem? h.1)
    rw [h.2.1] at this; cases this
  | some p =>
    obtain ⟨k, y⟩ := p
    obtain ⟨rfl, rfl⟩ := h.unique (pick_some hp)
    rfl
theorem pick_of_none {t : Int} {ts : List Tk} (h : ∀ y ∈ ts, avail t y = false) : pick t ts = none := by
  cases hp : pick t ts with
  | none => rfl
  | some p =>
    obtain ⟨k, y⟩ := p
    have := h y (List.mem_of_getElem? (pick_some hp).1)
    rw [(pick_some hp).2.1] at this; cases this
/-- the next time at which a job becomes ready -/
def next (t : Int) : List Tk → Option Int
  | [] => none
  | x :: l => match next t l with
    | none => if t < x.j.ready then some x.j.ready else none
    | some u => if t < x.j.ready ∧ x.j.ready < u then some x.j.ready else some u
theorem next_none {t : Int} : ∀ {ts : List Tk}, next t ts = none ↔ ∀ y ∈ ts, y.j.ready ≤ t
  | [] => by simp [next]
  | x :: l => by
    have ih := next_none (t := t) (ts := l)
    simp only [next, List.forall_mem_cons]
    cases h : next t l with
    | none =>
      have ih := ih.1 h
      simp only
      constructor
      · intro h2
        refine ⟨?_, ih⟩
        rcases Int.lt_or_le t x.j.ready with h3 | h3
        · rw [if_pos h3] at h2; cases h2
        · exact h3
      · rintro ⟨h2, _⟩; rw [if_neg (by omega)]
    | some u =>
      simp only
      constructor
      · intro h2; split at h2 <;> cases h2
      · rintro ⟨_, h2⟩; rw [ih.2 h2] at h; cases h
theorem next_some {t u : Int} : ∀ {ts : List Tk}, next t ts = some u → t < u ∧ (∃ y ∈ ts, y.j.ready = u) ∧ ∀ y ∈ ts, t < y.j.ready → u ≤ y.j.ready
  | [], h => by simp [next] at h
  | x :: l, h => by
    simp only [next] at h
    cases h1 : next t l with
    | none =>
      rw [h1] at h
      simp only at h
      have ih := next_none.1 h1
      split at h
      · rename_i h2
        cases h
        refine ⟨h2, ⟨x, by simp, rfl⟩, fun y hy hlt => ?_⟩
        rcases List.mem_cons.1 hy with rfl | hy
        · exact Int.le_refl _
        · have := ih y hy; omega
      · cases h
    | some v =>
      rw [h1] at h
      simp only at h
      obtain ⟨i1, ⟨z, hz, hzr⟩, i3⟩ := next_some h1
      split at h
      · rename_i h2
        cases h
        refine ⟨h2.1, ⟨x, by simp, rfl⟩, fun y hy hlt => ?_⟩
        rcases List.mem_cons.1 hy with rfl | hy
        · exact Int.le_refl _
        · have := i3 y hy hlt; omega
      · rename_i h2
        cases h
        refine ⟨i1, ⟨z, by simp [hz], hzr⟩, fun y hy hlt => ?_⟩
        rcases List.mem_cons.1 hy with rfl | hy
        · omega
        · exact i3 y hy hlt
end Go.Mine.Q
namespace Go.Mine.Q
def setLeft (x : Tk) (n : Int) : Tk := ⟨x.j, x.left - n⟩
/-- how long the best one is worked on -/
def span1 (t : Int) (ts : List Tk) (x : Tk) : Int := match next t ts with
  | none => x.left
  | some u => if x.left < u - t then x.left else u - t
def mu (t : Int) (ts : List Tk) : Nat := (ts.countP fun x => decide (0 < x.left)) + (ts.countP fun x => decide (t < x.j.ready))
def raw : Nat → Int → List Tk → List Pc
  | 0, _, _ => []
  | n + 1, t, ts => match pick t ts with
    | some (i, x) => ⟨x.j, t, t + span1 t ts x⟩ :: raw n (t + span1 t ts x) (ts.set i (setLeft x (span1 t ts x)))
    | none => match next t ts with
      | some u => raw n u ts
      | none => []
def R (t : Int) (ts : List Tk) : List Pc := raw (mu t ts) t ts
theorem span1_pos {t : Int} {ts : List Tk} {i : Nat} {x : Tk} (h : Best t ts i x) : 0 < span1 t ts x ∧ span1 t ts x ≤ x.left := by
  have hl := (avail_iff.1 h.2.1).2
  unfold span1
  cases hn : next t ts with
  | none => exact ⟨hl, Int.le_refl _⟩
  | some u =>
    have := (next_some hn).1
    simp only
    split <;> omega
theorem countP_set {p : Tk → Bool} : ∀ {ts : List Tk} {i : Nat} {x y : Tk}, ts[i]? = some x → (ts.set i y).countP p + (if p x = true then 1 else 0) = ts.countP p + (if p y = true then 1 else 0)
  | [], i, _, _, h => by simp at h
  | z :: l, 0, x, y, h => by
    simp at h; subst h
    simp only [List.set_cons_zero, List.countP_cons]
    split <;> split <;> omega
  | z :: l, i + 1, x, y, h => by
    simp at h
    have := countP_set (p := p) (ts := l) (y := y) h
    simp only [List.set_cons_succ, List.countP_cons]
    omega
theorem countP_lt {p q : Tk → Bool} : ∀ {ts : List Tk}, (∀ y ∈ ts, p y = true → q y = true) → (∃ y ∈ ts, q y = true ∧ p y = false) → ts.countP p < ts.countP q
  | [], _, h => by obtain ⟨y, hy, _⟩ := h; simp at hy
  | z :: l, h, ⟨y, hy, h1, h2⟩ => by
    have hle : l.countP p ≤ l.countP q := List.countP_mono_left fun x hx => h x (by simp [hx])
    have hz := h z (by simp)
    simp only [List.countP_cons]
    rcases List.mem_cons.1 hy with rfl | hy
    · rw [h1, h2]; simp; omega
    · have := countP_lt (p := p) (q := q) (ts := l) (fun x hx => h x (by simp [hx])) ⟨y, hy, h1, h2⟩
      by_cases hp : p z = true
      · rw [hp, hz hp]; simp; omega
      · have hp : p z = false := by simpa using hp
        rw [hp]; simp; omega
theorem mu_idle {t u : Int} {ts : List Tk} (h : next t ts = some u) : mu u ts < mu t ts := by
  obtain ⟨h1, ⟨y, hy, hr⟩, h3⟩ := next_some h
  unfold mu
  have := countP_lt (p := fun x => decide (u < x.j.ready)) (q := fun x => decide (t < x.j.ready)) (ts := ts) (fun x _ hx => by simp at *; omega) ⟨y, hy, by simp; omega, by simp; omega⟩
  omega
theorem mu_work {t : Int} {ts : List Tk} {i : Nat} {x : Tk} (h : Best t ts i x) : mu (t + span1 t ts x) (ts.set i (setLeft x (span1 t ts x))) < mu t ts := by
  obtain ⟨p1, p2⟩ := span1_pos h
  have hl := (avail_iff.1 h.2.1).2
  have e1 := countP_set (p := fun x => decide (0 < x.left)) (y := setLeft x (span1 t ts x)) h.1
  have e2 := countP_set (p := fun y => decide (t + span1 t ts x < y.j.ready)) (y := setLeft x (span1 t ts x)) h.1
  have e3 : (if decide (t + span1 t ts x < (setLeft x (span1 t ts x)).j.ready) = true then 1 else 0) = (if decide (t + span1 t ts x < x.j.ready) = true then 1 else 0) := rfl
  rw [e3] at e2
  unfold mu
  have hx : (if decide (0 < x.left) = true then 1 else 0) = 1 := by simp [hl]
  rw [hx] at e1
  have hle : (ts.countP fun y => decide (t + span1 t ts x < y.j.ready)) ≤ ts.countP fun y => decide (t < y.j.ready) := List.countP_mono_left fun y _ hy => by simp at *; omega
  cases hn : next t ts with
  | none =>
    have : span1 t ts x = x.left := by unfold span1; rw [hn]
    have e1' : (if decide (0 < (setLeft x (span1 t ts x)).left) = true then 1 else 0) = 0 := by simp [setLeft, this]
    rw [e1'] at e1
    generalize (if decide (t + span1 t ts x < x.j.ready) = true then 1 else 0) = q at *
    omega
  | some u =>
    obtain ⟨h1, ⟨z, hz, hr⟩, h3⟩ := next_some hn
    by_cases hc : x.left < u - t
    · have : span1 t ts x = x.left := by unfold span1; rw [hn]; simp [hc]
      have e1' : (if decide (0 < (setLeft x (span1 t ts x)).left) = true then 1 else 0) = 0 := by simp [setLeft, this]
      rw [e1'] at e1
      generalize (if decide (t + span1 t ts x < x.j.ready) = true then 1 else 0) = q at *
      omega
    · have hs : span1 t ts x = u - t := by unfold span1; rw [hn]; simp [hc]
      have hlt := countP_lt (p := fun y => decide (t + span1 t ts x < y.j.ready)) (q := fun y => decide (t < y.j.ready)) (ts := ts) (fun y _ hy => by simp at *; omega) ⟨z, hz, by simp; omega, by simp; omega⟩
      have e1' : (if decide (0 < (setLeft x (span1 t ts x)).left) = true then 1 else 0) ≤ 1 := by split <;> omega
      generalize (if decide (t + span1 t ts x < x.j.ready) = true then 1 else 0) = q at *
      generalize (if decide (0 < (setLeft x (span1 t ts x)).left) = true then 1 else 0) = q2 at *
      omega
theorem raw_fuel : ∀ (n : Nat) (t : Int) (ts : List Tk), mu t ts ≤ n → raw n t ts = raw (mu t ts) t ts
  | 0, t, ts, h => by rw [Nat.le_zero.1 h]
  | n + 1, t, ts, h => by
    cases hm : mu t ts with
    | zero =>
      unfold raw
      cases hp : pick t ts with
      | some p =>
        obtain ⟨i, x⟩ := p
        have := mu_work (pick_some hp); omega
      | none =>
        simp only
        cases hn : next t ts with
        | none => rfl
        | some u => have := mu_idle hn; omega
    | succ m =>
      simp only [raw]
      cases hp : pick t ts with
      | some p =>
        obtain ⟨i, x⟩ := p
        have := mu_work (pick_some hp)
        simp only
        rw [raw_fuel n _ _ (by omega), raw_fuel m _ _ (by omega)]
      | none =>
        simp only
        cases hn : next t ts with
        | none => rfl
        | some u =>
          have := mu_idle hn
          simp only
          rw [raw_fuel n _ _ (by omega), raw_fuel m _ _ (by omega)]
  termination_by n => n
theorem R_eq (t : Int) (ts : List Tk) : R t ts = match pick t ts with
    | some (i, x) => ⟨x.j, t, t + span1 t ts x⟩ :: R (t + span1 t ts x) (ts.set i (setLeft x (span1 t ts x)))
    | none => match next t ts with
      | some u => R u ts
      | none => [] := by
  unfold R
  rw [← raw_fuel (mu t ts + 1) t ts (by omega)]
  conv => lhs; unfold raw
  cases hp : pick t ts with
  | some p =>
    obtain ⟨i, x⟩ := p
    have := mu_work (pick_some hp)
    simp only
    rw [raw_fuel _ _ _ (show _ ≤ mu t ts by omega)]
  | none =>
    simp only
    cases hn : next t ts with
    | none => rfl
    | some u =>
      have := mu_idle hn
      simp only
      rw [raw_fuel _ _ _ (show _ ≤ mu t ts by omega)]
theorem R_work {t : Int} {ts : List Tk} {i : Nat} {x : Tk} (h : Best t ts i x) : R t ts = ⟨x.j, t, t + span1 t ts x⟩ :: R (t + span1 t ts x) (ts.set i (setLeft x (span1 t ts x))) := by
  rw [R_eq, pick_of_best h]
theorem R_idle {t u : Int} {ts : List Tk} (h : ∀ y ∈ ts, avail t y = false) (hn : next t ts = some u) : R t ts = R u ts := by
  rw [R_eq, pick_of_none h]; simp only; rw [hn]
theorem R_end {t : Int} {ts : List Tk} (h : ∀ y ∈ ts, avail t y = false) (hn : next t ts = none) : R t ts = [] := by
  rw [R_eq, pick_of_none h]; simp only; rw [hn]
/-- nothing is left -/
theorem R_nil {ts : List Tk} (h : ∀ y ∈ ts, y.left ≤ 0) : ∀ (n : Nat) (t : Int), mu t ts ≤ n → R t ts = []
  | 0, t, hm => by unfold R; rw [Nat.le_zero.1 hm]; rfl
  | n + 1, t, hm => by
    have hav : ∀ y ∈ ts, avail t y = false := fun y hy => by
      have := h y hy
      cases ha : avail t y
      · rfl
      · have := (avail_iff.1 ha).2; omega
    cases hn : next t ts with
    | none => exact R_end hav hn
    | some u =>
      rw [R_idle hav hn]
      exact R_nil h n u (by have := mu_idle hn; omega)
theorem R_done {ts : List Tk} (h : ∀ y ∈ ts, y.left ≤ 0) (t : Int) : R t ts = [] := R_nil h _ t (Nat.le_refl _)
/-- an induction along the run -/
theorem run_ind {P : Int → List Tk → Prop} (hend : ∀ t ts, (∀ y ∈ ts, avail t y = false) → next t ts = none → P t ts) (hidle : ∀ t u ts, (∀ y ∈ ts, avail t y = false) → next t ts = some u → P u ts → P t ts)
    (hwork : ∀ t ts i x, Best t ts i x → P (t + span1 t ts x) (ts.set i (setLeft x (span1 t ts x))) → P t ts) : ∀ (t : Int) (ts : List Tk), P t ts := by
  have key : ∀ (n : Nat) (t : Int) (ts : List Tk), mu t ts ≤ n → P t ts := by
    intro n
    induction n with
    | zero =>
      intro t ts hm
      cases hp : pick t ts with
      | some p =>
        obtain ⟨i, x⟩ := p
        have := mu_work (pick_some hp); omega
      | none =>
        cases hn : next t ts with
        | none => exact hend t ts (pick_none hp) hn
        | some u => have := mu_idle hn; omega
    | succ n ih =>
      intro t ts hm
      cases hp : pick t ts with
      | some p =>
        obtain ⟨i, x⟩ := p
        have := mu_work (pick_some hp)
        exact hwork t ts i x (pick_some hp) (ih _ _ (by omega))
      | none =>
        cases hn : next t ts with
        | none => exact hend t ts (pick_none hp) hn
        | some u =>
          have := mu_idle hn
          exact hidle t u ts (pick_none hp) hn (ih _ _ (by omega))
  exact fun t ts => key _ t ts (Nat.le_refl _)
end Go.Mine.Q
namespace Go.Mine.Q
def js (ts : List Tk) : List Jb := ts.map (·.j)
theorem js_set {ts : List Tk} {i : Nat} {x : Tk} (h : ts[i]? = some x) (n : Int) : js (ts.set i (setLeft x n)) = js ts := by
  unfold js
  rw [List.map_set]
  refine List.ext_getElem? fun k => ?_
  rw [List.getElem?_set]
  split
  · rename_i e
    subst e
    rw [List.getElem?_map, h]
    have := (List.getElem?_eq_some_iff.1 h).1
    simp [setLeft, this]
  · rfl
/-- what is left lies between nothing and all -/
def WF (ts : List Tk) : Prop := ∀ x ∈ ts, 0 ≤ x.left ∧ x.left ≤ x.j.need ∧ 0 ≤ x.j.ready
theorem mem_set {ts : List Tk} {i : Nat} {y z : Tk} (h : z ∈ ts.set i y) : z = y ∨ ∃ k, k ≠ i ∧ ts[k]? = some z := by
  obtain ⟨k, hk⟩ := List.getElem?_of_mem h
  rw [List.getElem?_set] at hk
  by_cases e : i = k
  · subst e
    left
    rw [if_pos rfl] at hk
    split at hk
    · exact (Option.some.inj hk).symm
    · cases hk
  · rw [if_neg e] at hk
    exact .inr ⟨k, fun h => e h.symm, hk⟩
theorem WF_work {t : Int} {ts : List Tk} {i : Nat} {x : Tk} (h : WF ts) (hb : Best t ts i x) : WF (ts.set i (setLeft x (span1 t ts x))) := by
  intro z hz
  rcases mem_set hz with rfl | ⟨k, _, hk⟩
  · have := h x (List.mem_of_getElem? hb.1)
    have := span1_pos hb
    simp only [setLeft]; omega
  · exact h z (List.mem_of_getElem? hk)
/-- for each due there is a time since which only such work has been done as is due by then, and came since -/
def Inv (t : Int) (ts : List Tk) : Prop := ∀ D : Int, ∃ s : Int, 0 ≤ s ∧ s ≤ t ∧ (∀ x ∈ ts, x.j.due ≤ D → x.j.ready < s → x.left = 0) ∧ t - s ≤ sumF (fun x => if inS s D x.j = true then x.j.need - x.left else 0) ts
theorem done_nonneg {ts : List Tk} (h : WF ts) (s D : Int) : 0 ≤ sumF (fun x => if inS s D x.j = true then x.j.need - x.left else 0) ts :=
  sumF_nonneg fun x hx => by have := h x hx; split <;> omega
theorem Inv_idle {t u : Int} {ts : List Tk} (hw : WF ts) (h0 : 0 ≤ t) (h : ∀ y ∈ ts, avail t y = false) (hn : next t ts = some u) : Inv u ts := by
  obtain ⟨h1, _, h3⟩ := next_some hn
  intro D
  refine ⟨u, by omega, Int.le_refl _, fun x hx _ hr => ?_, by have := done_nonneg hw u D; omega⟩
  have hle : x.j.ready ≤ t := by
    rcases Int.lt_or_le t x.j.ready with h2 | h2
    · have := h3 x hx h2; omega
    · exact h2
  have := hw x hx
  have hf := h x hx
  rcases Int.lt_or_le 0 x.left with h2 | h2
  · rw [avail_iff.2 ⟨hle, h2⟩] at hf; cases hf
  · omega
theorem span1_next {t u : Int} {ts : List Tk} {x : Tk} (hn : next t ts = some u) : span1 t ts x ≤ u - t := by
  unfold span1; rw [hn]; simp only; split <;> omega
theorem Inv_work {t : Int} {ts : List Tk} {i : Nat} {x : Tk} (hw : WF ts) (h0 : 0 ≤ t) (hb : Best t ts i x) (hi : Inv t ts) : Inv (t + span1 t ts x) (ts.set i (setLeft x (span1 t ts x))) := by
  obtain ⟨p1, p2⟩ := span1_pos hb
  have hxl := (avail_iff.1 hb.2.1)
  have hx := hw x (List.mem_of_getElem? hb.1)
  intro D
  by_cases hd : x.j.due ≤ D
  · obtain ⟨s, s1, s2, s3, s4⟩ := hi D
    have hrs : s ≤ x.j.ready := by
      rcases Int.lt_or_le x.j.ready s with h | h
      · have := s3 x (List.mem_of_getElem? hb.1) hd h; omega
      · exact h
    refine ⟨s, s1, by omega, fun z hz hzd hzr => ?_, ?_⟩
    · rcases mem_set hz with rfl | ⟨k, _, hk⟩
      · simp only [setLeft] at hzr; omega
      · exact s3 z (List.mem_of_getElem? hk) hzd hzr
    · rw [sumF_set _ hb.1]
      have e1 : inS s D x.j = true := by simp [inS]; omega
      have e2 : inS s D (setLeft x (span1 t ts x)).j = true := e1
      rw [if_pos e1, if_pos e2]
      simp only [setLeft]
      omega
  · refine ⟨t + span1 t ts x, by omega, Int.le_refl _, fun z hz hzd hzr => ?_, by have := done_nonneg (WF_work hw hb) (t + span1 t ts x) D; omega⟩
    rcases mem_set hz with rfl | ⟨k, hki, hk⟩
    · simp only [setLeft] at hzd; omega
    · have hz' := List.mem_of_getElem? hk
      have hle : z.j.ready ≤ t := by
        rcases Int.lt_or_le t z.j.ready with h2 | h2
        · cases hn : next t ts with
          | none => exact absurd (next_none.1 hn z hz') (by omega)
          | some u =>
            have := (next_some hn).2.2 z hz' h2
            have := span1_next (x := x) hn
            omega
        · exact h2
      rcases Int.lt_or_le 0 z.left with h2 | h2
      · have := hb.2.2 k z hk (avail_iff.2 ⟨hle, h2⟩)
        omega
      · have := hw z hz'; omega
/-- what is too late denies -/
theorem late_full {t : Int} {ts : List Tk} (hw : WF ts) (hi : Inv t ts) {i : Nat} {x : Tk} (hb : Best t ts i x) (hd : x.j.due ≤ 1099511627776) (hr : x.j.ready < x.j.due) (hl : x.j.due < t + span1 t ts x) : ∃ a b, full (js ts) a b = true := by
  obtain ⟨s, s1, s2, s3, s4⟩ := hi x.j.due
  obtain ⟨p1, p2⟩ := span1_pos hb
  have hx := hw x (List.mem_of_getElem? hb.1)
  have hrs : s ≤ x.j.ready := by
    rcases Int.lt_or_le x.j.ready s with h | h
    · have := s3 x (List.mem_of_getElem? hb.1) (Int.le_refl _) h; omega
    · exact h
  refine ⟨s, x.j.due, full_iff.2 ⟨s1, by omega, hd, ?_⟩⟩
  unfold wrk js
  rw [sumF_map]
  have e := sumF_add (fun y : Tk => if inS s x.j.due y.j = true then y.j.need - y.left else 0) (fun y : Tk => if inS s x.j.due y.j = true then y.left else 0) ts
  have e2 : sumF (fun y : Tk => (if inS s x.j.due y.j = true then y.j.need - y.left else 0) + (if inS s x.j.due y.j = true then y.left else 0)) ts = sumF (fun y : Tk => if inS s x.j.due y.j = true then y.j.need else 0) ts :=
    sumF_congr fun y _ => by split <;> omega
  have e3 := sumF_mem (f := fun y : Tk => if inS s x.j.due y.j = true then y.left else 0) hb.1 (fun y hy => by have := hw y hy; split <;> omega)
  have e4 : inS s x.j.due x.j = true := by simp [inS]; omega
  simp only [e4, if_true] at e3
  omega
theorem run_full : ∀ (t : Int) (ts : List Tk), WF ts → 0 ≤ t → (∀ x ∈ js ts, rightJ x = true) → Inv t ts → (∃ p ∈ R t ts, p.j.due < p.u) → ∃ a b, full (js ts) a b = true := by
  refine run_ind (P := fun t ts => WF ts → 0 ≤ t → (∀ x ∈ js ts, rightJ x = true) → Inv t ts → (∃ p ∈ R t ts, p.j.due < p.u) → ∃ a b, full (js ts) a b = true) ?_ ?_ ?_
  · intro t ts h hn _ _ _ _ ⟨p, hp, _⟩
    rw [R_end h hn] at hp; simp at hp
  · intro t u ts h hn ih hw h0 hr hi hp
    rw [R_idle h hn] at hp
    have := (next_some hn).1
    exact ih hw (by omega) hr (Inv_idle hw h0 h hn) hp
  · intro t ts i x hb ih hw h0 hr hi ⟨p, hp, hl⟩
    rw [R_work hb] at hp
    have hxr := rightJ_iff.1 (hr x.j (List.mem_map.2 ⟨x, List.mem_of_getElem? hb.1, rfl⟩))
    rcases List.mem_cons.1 hp with rfl | hp
    · exact late_full hw hi hb (by omega) (by omega) hl
    · have := ih (WF_work hw hb) (by have := span1_pos hb; omega) (by rw [js_set hb.1]; exact hr) (Inv_work hw h0 hb hi) ⟨p, hp, hl⟩
      rw [js_set hb.1] at this; exact this
def start (l : List Jb) : List Tk := l.map fun x => ⟨x, x.need⟩
theorem js_start (l : List Jb) : js (start l) = l := by
  unfold js start
  rw [List.map_map]
  exact List.map_id' l
theorem WF_start {l : List Jb} (h : ∀ x ∈ l, rightJ x = true) : WF (start l) := by
  intro x hx
  obtain ⟨y, hy, rfl⟩ := List.mem_map.1 hx
  have := rightJ_iff.1 (h y hy)
  simp only; omega
theorem Inv_start {l : List Jb} (h : ∀ x ∈ l, rightJ x = true) : Inv 0 (start l) := by
  intro D
  refine ⟨0, Int.le_refl _, Int.le_refl _, fun x hx _ hr => ?_, by have := done_nonneg (WF_start h) 0 D; omega⟩
  obtain ⟨y, hy, rfl⟩ := List.mem_map.1 hx
  have := rightJ_iff.1 (h y hy)
  simp only at hr; omega
def pieces (l : List Jb) : List Pc := R 0 (start l)
def runOk (l : List Jb) : Bool := (pieces l).all fun p => decide (p.u ≤ p.j.due)
theorem fail_full {l : List Jb} (h : ∀ x ∈ l, rightJ x = true) (hf : runOk l = false) : ∃ a b, full l a b = true := by
  have : ∃ p ∈ R 0 (start l), p.j.due < p.u := by
    obtain ⟨p, hp, hd⟩ := List.all_eq_false.1 hf
    exact ⟨p, hp, by simpa using hd⟩
  have h2 := run_full 0 (start l) (WF_start h) (Int.le_refl _) (by rw [js_start]; exact h) (Inv_start h) this
  rw [js_start] at h2; exact h2
/-! ### a span that is too full begins and ends at jobs -/
theorem exists_min (f : Jb → Int) : ∀ {l : List Jb}, l ≠ [] → ∃ x ∈ l, ∀ y ∈ l, f x ≤ f y
  | [], h => absurd rfl h
  | [x], _ => ⟨x, by simp, fun y hy => by simp at hy; subst hy; exact Int.le_refl _⟩
  | x :: z :: l, _ => by
    obtain ⟨w, hw, h⟩ := exists_min f (l := z :: l) (by simp)
    by_cases hc : f x ≤ f w
    · refine ⟨x, by simp, fun y hy => ?_⟩
      rcases List.mem_cons.1 hy with rfl | hy
      · exact Int.le_refl _
      · have := h y hy; omega
    · refine ⟨w, List.mem_cons_of_mem _ hw, fun y hy => ?_⟩
      rcases List.mem_cons.1 hy with rfl | hy
      · omega
      · exact h y hy
theorem full_tight {l : List Jb} (h : ∀ x ∈ l, rightJ x = true) {a b : Int} (hf : full l a b = true) : ∃ x ∈ l, ∃ y ∈ l, full l x.ready y.due = true := by
  obtain ⟨f1, f2, f3, f4⟩ := full_iff.1 hf
  have hne : l.filter (inS a b) ≠ [] := by
    intro e
    have : wrk l a b = 0 := by
      unfold wrk
      rw [sumF_congr (g := fun _ => 0)]
      · have : ∀ m : List Jb, sumF (fun _ => (0 : Int)) m = 0 := fun m => by induction m with
          | nil => rfl
          | cons x m ih => simp only [sumF, ih]; omega
        exact this l
      · intro x hx
        have : inS a b x = false := by
          cases hc : inS a b x
          · rfl
          · have : x ∈ l.filter (inS a b) := List.mem_filter.2 ⟨hx, hc⟩
            rw [e] at this; simp at this
        simp [this]
    omega
  obtain ⟨x, hx, hmin⟩ := exists_min (·.ready) hne
  obtain ⟨y, hy, hmax⟩ := exists_min (fun z => -z.due) hne
  have hx1 := List.mem_filter.1 hx
  have hy1 := List.mem_filter.1 hy
  have hx2 : a ≤ x.ready ∧ x.due ≤ b := by have := hx1.2; simp [inS] at this; exact this
  have hy2 : a ≤ y.ready ∧ y.due ≤ b := by have := hy1.2; simp [inS] at this; exact this
  have hxr := rightJ_iff.1 (h x hx1.1)
  have hyr := rightJ_iff.1 (h y hy1.1)
  have hm := hmin y hy
  refine ⟨x, hx1.1, y, hy1.1, full_iff.2 ⟨by omega, by omega, by omega, ?_⟩⟩
  have hle : wrk l a b ≤ wrk l x.ready y.due := by
    refine sumF_le fun z hz => ?_
    have hzr := rightJ_iff.1 (h z hz)
    by_cases hc : inS a b z = true
    · have hz2 : z ∈ l.filter (inS a b) := List.mem_filter.2 ⟨hz, hc⟩
      have h1 := hmin z hz2
      have h2 := hmax z hz2
      have : inS x.ready y.due z = true := by simp [inS]; omega
      rw [if_pos hc, if_pos this]; exact Int.le_refl _
    · rw [if_neg hc]; split <;> omega
  omega
end Go.Mine.Q
namespace Go.Mine.Q
def jobOf (l : List Jb) (n : Int) : Option Jb := l.find? fun x => decide (x.no = n)
def okS (last : Int) (j : Option Jb) (x : Sx) : Bool := match j with
  | none => false
  | some j => decide (last ≤ x.f) && (decide (j.ready ≤ x.f) && (decide (x.f < x.u) && decide (x.u ≤ j.due)))
def accGo (l : List Jb) : Int → List Sx → Bool
  | _, [] => true
  | last, x :: s => okS last (jobOf l x.no) x && accGo l x.u s
def doneN (n : Int) (s : List Sx) : Int := sumF (fun x => if x.no = n then x.u - x.f else 0) s
def acc (l : List Jb) (s : List Sx) : Bool := accGo l 0 s && l.all fun j => decide (doneN j.no s = j.need)
theorem okS_iff {last : Int} {j : Option Jb} {x : Sx} : okS last j x = true ↔ ∃ y, j = some y ∧ last ≤ x.f ∧ y.ready ≤ x.f ∧ x.f < x.u ∧ x.u ≤ y.due := by
  cases j with
  | none => simp [okS]
  | some y => simp [okS]
theorem accGo_cons {l : List Jb} {last : Int} {x : Sx} {s : List Sx} : accGo l last (x :: s) = true ↔ (∃ y, jobOf l x.no = some y ∧ last ≤ x.f ∧ y.ready ≤ x.f ∧ x.f < x.u ∧ x.u ≤ y.due) ∧ accGo l x.u s = true := by
  simp only [accGo, Bool.and_eq_true, okS_iff]
theorem accGo_mono {l : List Jb} {a b : Int} (h : a ≤ b) : ∀ {s : List Sx}, accGo l b s = true → accGo l a s = true
  | [], _ => rfl
  | x :: s, hs => by
    rw [accGo_cons] at *
    obtain ⟨⟨y, h1, h2, h3⟩, h4⟩ := hs
    exact ⟨⟨y, h1, by omega, h3⟩, h4⟩
theorem jobOf_some {l : List Jb} {n : Int} {j : Jb} (h : jobOf l n = some j) : j ∈ l ∧ j.no = n := by
  unfold jobOf at h
  exact ⟨List.mem_of_find?_eq_some h, by have := List.find?_some h; simpa using this⟩
theorem jobOf_mem : ∀ {l : List Jb}, l.Pairwise (fun x y => x.no < y.no) → ∀ {j : Jb}, j ∈ l → jobOf l j.no = some j
  | [], _, j, h => by simp at h
  | x :: l, hp, j, h => by
    rw [List.pairwise_cons] at hp
    unfold jobOf
    rw [List.find?_cons]
    rcases List.mem_cons.1 h with rfl | h
    · simp
    · have hlt := hp.1 j h
      have : decide (x.no = j.no) = false := decide_eq_false (by omega)
      rw [this]
      exact jobOf_mem hp.2 h
theorem sum_one {l : List Jb} {n : Int} {c : Int} {p : Jb → Bool} : l.Pairwise (fun x y => x.no < y.no) → sumF (fun j => if p j = true then (if n = j.no then c else 0) else 0) l = (match jobOf l n with | none => 0 | some j => if p j = true then c else 0) := by
  induction l with
  | nil => intro _; rfl
  | cons x l ih =>
    intro hp
    rw [List.pairwise_cons] at hp
    have ih := ih hp.2
    unfold jobOf at *
    rw [List.find?_cons]
    simp only [sumF]
    by_cases e : x.no = n
    · have hd : decide (x.no = n) = true := decide_eq_true e
      rw [hd]
      have hz : sumF (fun j : Jb => if p j = true then (if n = j.no then c else 0) else 0) l = 0 := by
        rw [sumF_congr (g := fun _ => 0)]
        · have : ∀ m : List Jb, sumF (fun _ => (0 : Int)) m = 0 := fun m => by induction m with
            | nil => rfl
            | cons x m ih => simp only [sumF, ih]; omega
          exact this l
        · intro y hy
          have := hp.1 y hy
          rw [if_neg (show ¬ n = y.no by omega)]; split <;> rfl
      rw [hz, if_pos e.symm]
      simp
    · have hd : decide (x.no = n) = false := decide_eq_false e
      have e2 : ¬ n = x.no := fun h => e h.symm
      rw [hd, ih, if_neg e2]
      simp
/-- work within a span is no longer than the span -/
theorem acc_in {l : List Jb} (hp : l.Pairwise fun x y => x.no < y.no) (a b : Int) : ∀ (s : List Sx) (last : Int), accGo l last s = true →
    sumF (fun j => if inS a b j = true then doneN j.no s else 0) l ≤ (if b - (if a ≤ last then last else a) < 0 then 0 else b - (if a ≤ last then last else a))
  | [], last, _ => by
    rw [sumF_congr (g := fun _ => 0)]
    · have : ∀ m : List Jb, sumF (fun _ => (0 : Int)) m = 0 := fun m => by induction m with
        | nil => rfl
        | cons x m ih => simp only [sumF, ih]; omega
      rw [this]; split <;> omega
    · intro x _; simp [doneN, sumF]
  | x :: s, last, h => by
    obtain ⟨⟨y, h1, h2, h3, h4, h5⟩, h6⟩ := accGo_cons.1 h
    have ih := acc_in hp a b s x.u h6
    have e : sumF (fun j => if inS a b j = true then doneN j.no (x :: s) else 0) l = sumF (fun j => if inS a b j = true then (if x.no = j.no then x.u - x.f else 0) else 0) l + sumF (fun j => if inS a b j = true then doneN j.no s else 0) l := by
      rw [← sumF_add]
      refine sumF_congr fun j _ => ?_
      simp only [doneN, sumF]
      split <;> omega
    rw [e, sum_one hp, h1]
    simp only
    by_cases hc : inS a b y = true
    · have hc2 : a ≤ y.ready ∧ y.due ≤ b := by simpa [inS] using hc
      rw [if_pos hc]
      revert ih
      generalize sumF (fun j => if inS a b j = true then doneN j.no s else 0) l = S
      intro ih
      split at ih <;> split <;> split at ih <;> split <;> omega
    · rw [if_neg hc]
      revert ih
      generalize sumF (fun j => if inS a b j = true then doneN j.no s else 0) l = S
      intro ih
      split at ih <;> split <;> split at ih <;> split <;> omega
theorem acc_not_full {l : List Jb} (h : okL l = true) {s : List Sx} (hs : acc l s = true) (a b : Int) : full l a b = false := by
  obtain ⟨h1, h2⟩ := okL_iff.1 h
  cases hf : full l a b
  · rfl
  · obtain ⟨f1, f2, f3, f4⟩ := full_iff.1 hf
    unfold acc at hs
    rw [Bool.and_eq_true, List.all_eq_true] at hs
    have h3 := acc_in h2 a b s 0 hs.1
    have e : wrk l a b = sumF (fun j => if inS a b j = true then doneN j.no s else 0) l :=
      sumF_congr fun j hj => by
        have := of_decide_eq_true (hs.2 j hj)
        rw [this]
    split at h3 <;> split at h3 <;> omega
/-! ### what the run yields is accepted -/
def sxOf (p : Pc) : Sx := ⟨p.j.no, p.f, p.u⟩
theorem nos_of {ts : List Tk} (hp : (js ts).Pairwise fun x y => x.no < y.no) {i k : Nat} {x y : Tk} (hi : ts[i]? = some x) (hk : ts[k]? = some y) (e : x.j.no = y.j.no) : i = k := by
  have h1 : (js ts)[i]? = some x.j := by unfold js; rw [List.getElem?_map, hi]; rfl
  have h2 : (js ts)[k]? = some y.j := by unfold js; rw [List.getElem?_map, hk]; rfl
  obtain ⟨a1, a2⟩ := List.getElem?_eq_some_iff.1 h1
  obtain ⟨b1, b2⟩ := List.getElem?_eq_some_iff.1 h2
  rw [List.pairwise_iff_getElem] at hp
  rcases Nat.lt_trichotomy i k with h | h | h
  · have := hp i k a1 b1 h; rw [a2, b2] at this; omega
  · exact h
  · have := hp k i b1 a1 h; rw [a2, b2] at this; omega
theorem run_acc (l : List Jb) (hl : l.Pairwise fun x y => x.no < y.no) : ∀ (t : Int) (ts : List Tk), js ts = l → (R t ts).all (fun p => decide (p.u ≤ p.j.due)) = true → accGo l t ((R t ts).map sxOf) = true := by
  refine run_ind (P := fun t ts => js ts = l → (R t ts).all (fun p => decide (p.u ≤ p.j.due)) = true → accGo l t ((R t ts).map sxOf) = true) ?_ ?_ ?_
  · intro t ts h hn _ _
    rw [R_end h hn]; rfl
  · intro t u ts h hn ih hj hp
    rw [R_idle h hn] at *
    have := (next_some hn).1
    exact accGo_mono (by omega) (ih hj hp)
  · intro t ts i x hb ih hj hp
    rw [R_work hb] at *
    simp only [List.all_cons, Bool.and_eq_true, decide_eq_true_eq] at hp
    rw [List.map_cons, accGo_cons]
    have hxm : x.j ∈ l := by rw [← hj]; exact List.mem_map.2 ⟨x, List.mem_of_getElem? hb.1, rfl⟩
    have := span1_pos hb
    have := (avail_iff.1 hb.2.1).1
    refine ⟨⟨x.j, jobOf_mem hl hxm, Int.le_refl _, by simp only [sxOf]; omega, by simp only [sxOf]; omega, hp.1⟩, ih (by rw [js_set hb.1]; exact hj) hp.2⟩
theorem run_done : ∀ (t : Int) (ts : List Tk), WF ts → (js ts).Pairwise (fun x y => x.no < y.no) → ∀ (k : Nat) (x : Tk), ts[k]? = some x → doneN x.j.no ((R t ts).map sxOf) = x.left := by
  refine run_ind (P := fun t ts => WF ts → (js ts).Pairwise (fun x y => x.no < y.no) → ∀ (k : Nat) (x : Tk), ts[k]? = some x → doneN x.j.no ((R t ts).map sxOf) = x.left) ?_ ?_ ?_
  · intro t ts h hn hw _ k x hk
    rw [R_end h hn]
    have hm := List.mem_of_getElem? hk
    have h1 := next_none.1 hn x hm
    have h2 := h x hm
    have h3 := hw x hm
    rcases Int.lt_or_le 0 x.left with h4 | h4
    · rw [avail_iff.2 ⟨h1, h4⟩] at h2; cases h2
    · simp only [List.map_nil, doneN, sumF]; omega
  · intro t u ts h hn ih hw hp k x hk
    rw [R_idle h hn]
    exact ih hw hp k x hk
  · intro t ts i x hb ih hw hp k y hk
    rw [R_work hb, List.map_cons]
    have hi := (List.getElem?_eq_some_iff.1 hb.1).1
    have hp2 : (js (ts.set i (setLeft x (span1 t ts x)))).Pairwise fun x y => x.no < y.no := by rw [js_set hb.1]; exact hp
    have ih := ih (WF_work hw hb) hp2
    by_cases e : k = i
    · subst e
      rw [hb.1] at hk
      obtain rfl := Option.some.inj hk
      have := ih k (setLeft x (span1 t ts x)) (by rw [List.getElem?_set]; simp [hi])
      simp only [setLeft] at this
      simp only [doneN, sumF] at *
      simp only [sxOf, if_true]
      rw [show (t + span1 t ts x - t) = span1 t ts x by omega]
      have e2 : (List.map sxOf (R (t + span1 t ts x) (ts.set k { j := x.j, left := x.left - span1 t ts x }))) = (List.map sxOf (R (t + span1 t ts x) (ts.set k (setLeft x (span1 t ts x))))) := rfl
      rw [e2] at this
      omega
    · have := ih k y (by rw [List.getElem?_set, if_neg (fun h => e h.symm)]; exact hk)
      have hne : ¬ x.j.no = y.j.no := fun h => e (nos_of hp hb.1 hk h).symm
      simp only [doneN, sumF] at *
      rw [show (sxOf ⟨x.j, t, t + span1 t ts x⟩).no = x.j.no from rfl, if_neg hne]
      omega
/-! ### slices joined -/
def addS (s : List Sx) (x : Sx) : List Sx := match s.getLast? with
  | none => [x]
  | some y => if y.no = x.no ∧ y.u = x.f then s.dropLast ++ [⟨y.no, y.f, x.u⟩] else s ++ [x]
theorem addS_nil (x : Sx) : addS [] x = [x] := rfl
theorem addS_join (s : List Sx) (y x : Sx) (h : y.no = x.no ∧ y.u = x.f) : addS (s ++ [y]) x = s ++ [⟨y.no, y.f, x.u⟩] := by
  unfold addS
  simp [h]
theorem addS_more (s : List Sx) (y x : Sx) (h : ¬ (y.no = x.no ∧ y.u = x.f)) : addS (s ++ [y]) x = s ++ [y] ++ [x] := by
  unfold addS
  simp only [List.getLast?_concat]
  rw [if_neg h]
def lastU (last : Int) : List Sx → Int
  | [] => last
  | x :: s => lastU x.u s
theorem accGo_append {l : List Jb} : ∀ {s r : List Sx} {last : Int}, accGo l last (s ++ r) = (accGo l last s && accGo l (lastU last s) r)
  | [], r, last => by simp [accGo, lastU]
  | x :: s, r, last => by simp only [List.cons_append, accGo, lastU, accGo_append (s := s), Bool.and_assoc]
theorem lastU_append : ∀ (s r : List Sx) (last : Int), lastU last (s ++ r) = lastU (lastU last s) r
  | [], r, last => rfl
  | x :: s, r, last => by simp only [List.cons_append, lastU, lastU_append s r]
theorem list_cases {α : Type} (s : List α) : s = [] ∨ ∃ r y, s = r ++ [y] := by
  rcases List.eq_nil_or_concat s with h | ⟨r, y, h⟩
  · exact .inl h
  · exact .inr ⟨r, y, by simpa using h⟩
theorem acc_join {l : List Jb} {s : List Sx} {x : Sx} {last : Int} (h : accGo l last (s ++ [x]) = true) : accGo l last (addS s x) = true ∧ lastU last (addS s x) = x.u := by
  rcases list_cases s with rfl | ⟨r, y, rfl⟩
  · exact ⟨h, rfl⟩
  · by_cases hc : y.no = x.no ∧ y.u = x.f
    · rw [addS_join r y x hc]
      refine ⟨?_, by simp [lastU_append, lastU]⟩
      rw [List.append_assoc, accGo_append, Bool.and_eq_true] at h
      rw [accGo_append, Bool.and_eq_true]
      refine ⟨h.1, ?_⟩
      obtain ⟨⟨j, h1, h2, h3, h4, h5⟩, h6⟩ := accGo_cons.1 h.2
      obtain ⟨⟨k, g1, g2, g3, g4, g5⟩, _⟩ := accGo_cons.1 (show accGo l y.u [x] = true from h6)
      rw [hc.1, g1] at h1
      obtain rfl := Option.some.inj h1
      exact accGo_cons.2 ⟨⟨k, by simp only [hc.1]; exact g1, h2, h3, by simp only; omega, g5⟩, rfl⟩
    · rw [addS_more r y x hc]
      exact ⟨h, by simp [lastU_append, lastU]⟩
theorem done_join (n : Int) (s : List Sx) (x : Sx) : doneN n (addS s x) = doneN n (s ++ [x]) := by
  rcases list_cases s with rfl | ⟨r, y, rfl⟩
  · rfl
  · by_cases hc : y.no = x.no ∧ y.u = x.f
    · rw [addS_join r y x hc]
      simp only [doneN, sumF_append, sumF]
      rw [hc.1]
      split <;> omega
    · rw [addS_more r y x hc]
def joined (s : List Sx) (r : List Sx) : List Sx := r.foldl addS s
theorem joined_acc {l : List Jb} {last : Int} : ∀ (r s : List Sx), accGo l last (s ++ r) = true → accGo l last (joined s r) = true
  | [], s, h => by simpa [joined] using h
  | x :: r, s, h => by
    have h2 : accGo l last ((s ++ [x]) ++ r) = true := by simpa using h
    rw [accGo_append, Bool.and_eq_true] at h2
    obtain ⟨j1, j2⟩ := acc_join h2.1
    have : joined s (x :: r) = joined (addS s x) r := rfl
    rw [this]
    refine joined_acc r _ ?_
    rw [accGo_append, Bool.and_eq_true]
    refine ⟨j1, ?_⟩
    rw [j2]
    have := h2.2
    rw [lastU_append] at this
    exact this
theorem joined_done (n : Int) : ∀ (r s : List Sx), doneN n (joined s r) = doneN n (s ++ r)
  | [], s => by simp [joined]
  | x :: r, s => by
    have : joined s (x :: r) = joined (addS s x) r := rfl
    rw [this, joined_done n r, doneN, sumF_append]
    have := done_join n s x
    simp only [doneN, sumF_append, sumF] at *
    omega
def plan (l : List Jb) : List Sx := joined [] ((pieces l).map sxOf)
theorem plan_acc {l : List Jb} (h : okL l = true) (ho : runOk l = true) : acc l (plan l) = true := by
  obtain ⟨h1, h2⟩ := okL_iff.1 h
  unfold acc plan
  rw [Bool.and_eq_true, List.all_eq_true]
  refine ⟨joined_acc _ [] ?_, fun j hj => ?_⟩
  · rw [List.nil_append]
    exact run_acc l h2 0 (start l) (js_start l) ho
  · rw [joined_done, List.nil_append]
    obtain ⟨k, hk⟩ := List.getElem?_of_mem hj
    have := run_done 0 (start l) (WF_start h1) (by rw [js_start]; exact h2) k ⟨j, j.need⟩ (by unfold start; rw [List.getElem?_map, hk]; rfl)
    exact decide_eq_true this
/-! ### one or the other -/
def denied (l : List Jb) : Bool := l.any fun x => l.any fun y => full l x.ready y.due
theorem denied_iff {l : List Jb} (h : okL l = true) : denied l = true ↔ ∃ a b, full l a b = true := by
  obtain ⟨h1, h2⟩ := okL_iff.1 h
  unfold denied
  simp only [List.any_eq_true]
  constructor
  · rintro ⟨x, _, y, _, hf⟩; exact ⟨_, _, hf⟩
  · rintro ⟨a, b, hf⟩
    obtain ⟨x, hx, y, hy, hf⟩ := full_tight h1 hf
    exact ⟨x, hx, y, hy, hf⟩
theorem ok_not_denied {l : List Jb} (h : okL l = true) : runOk l = !denied l := by
  cases ho : runOk l
  · have := (denied_iff h).2 (fail_full (okL_iff.1 h).1 ho)
    rw [this]; rfl
  · cases hd : denied l
    · rfl
    · obtain ⟨a, b, hf⟩ := (denied_iff h).1 hd
      rw [acc_not_full h (plan_acc h ho) a b] at hf; cases hf
theorem acc_ok {l : List Jb} (h : okL l = true) {s : List Sx} (hs : acc l s = true) : runOk l = true := by
  rw [ok_not_denied h]
  cases hd : denied l
  · rfl
  · obtain ⟨a, b, hf⟩ := (denied_iff h).1 hd
    rw [acc_not_full h hs a b] at hf; cases hf
end Go.Mine.Q
namespace Go.Mine.Q
theorem ok_of_less {l m : List Jb} (hl : okL l = true) (hm : okL m = true) (h : ∀ a b, wrk m a b ≤ wrk l a b) (ho : runOk l = true) : runOk m = true := by
  rw [ok_not_denied hm]
  cases hd : denied m
  · rfl
  · obtain ⟨a, b, hf⟩ := (denied_iff hm).1 hd
    obtain ⟨f1, f2, f3, f4⟩ := full_iff.1 hf
    have : full l a b = true := full_iff.2 ⟨f1, f2, f3, by have := h a b; omega⟩
    rw [ok_not_denied hl, (denied_iff hl).2 ⟨a, b, this⟩] at ho
    cases ho
theorem need_nonneg {l : List Jb} (h : okL l = true) (a b : Int) : ∀ y ∈ l, 0 ≤ (if inS a b y = true then y.need else 0) := fun y hy => by
  have := rightJ_iff.1 ((okL_iff.1 h).1 y hy)
  split <;> omega
theorem ok_sub {l m : List Jb} (hl : okL l = true) (hm : m.Sublist l) (ho : runOk l = true) : runOk m = true :=
  ok_of_less hl (okL_sub hl hm) (fun a b => sumF_sublist hm (need_nonneg hl a b)) ho
/-- due later, ready earlier -/
def easier (x : Jb) (early late : Int) : Jb := ⟨x.no, max 0 (x.ready - early), min 1099511627776 (x.due + late), x.need, x.alt⟩
theorem set_pair {l : List Jb} {k : Nat} {x y : Jb} (h : l[k]? = some x) (e : y.no = x.no) (hp : l.Pairwise fun x y => x.no < y.no) : (l.set k y).Pairwise fun x y => x.no < y.no := by
  have hm : (l.set k y).map (·.no) = l.map (·.no) := by
    rw [List.map_set, e]
    refine List.ext_getElem? fun i => ?_
    rw [List.getElem?_set]
    split
    · rename_i e2
      subst e2
      rw [List.getElem?_map, h]
      have := (List.getElem?_eq_some_iff.1 h).1
      simp [this]
    · rfl
  have h1 : (l.map (·.no)).Pairwise (· < ·) := List.pairwise_map.2 hp
  rw [← hm] at h1
  exact List.pairwise_map.1 h1
theorem okL_set {l : List Jb} {k : Nat} {x y : Jb} (h : l[k]? = some x) (e : y.no = x.no) (hr : rightJ y = true) (hl : okL l = true) : okL (l.set k y) = true := by
  rw [okL_iff] at *
  refine ⟨fun z hz => ?_, set_pair h e hl.2⟩
  obtain ⟨i, hi⟩ := List.getElem?_of_mem hz
  rw [List.getElem?_set] at hi
  split at hi
  · split at hi
    · rw [← Option.some.inj hi]; exact hr
    · cases hi
  · exact hl.1 z (List.mem_of_getElem? hi)
theorem easier_right {x : Jb} {early late : Int} (h : rightJ x = true) (he : 0 ≤ early) (hl : 0 ≤ late) : rightJ (easier x early late) = true := by
  rw [rightJ_iff] at *
  simp only [easier]
  omega
theorem ok_easy {l : List Jb} {k : Nat} {x : Jb} {early late : Int} (hl : okL l = true) (h : l[k]? = some x) (he : 0 ≤ early) (hla : 0 ≤ late) (ho : runOk l = true) : okL (l.set k (easier x early late)) = true ∧ runOk (l.set k (easier x early late)) = true := by
  have hx := (okL_iff.1 hl).1 x (List.mem_of_getElem? h)
  have hm := okL_set h (y := easier x early late) rfl (easier_right hx he hla) hl
  refine ⟨hm, ok_of_less hl hm (fun a b => ?_) ho⟩
  unfold wrk
  rw [sumF_set _ h]
  have hxr := rightJ_iff.1 hx
  have : (if inS a b (easier x early late) = true then (easier x early late).need else 0) ≤ (if inS a b x = true then x.need else 0) := by
    by_cases hc : inS a b (easier x early late) = true
    · have hc2 : a ≤ max 0 (x.ready - early) ∧ min 1099511627776 (x.due + late) ≤ b := by
        unfold inS at hc
        rw [Bool.and_eq_true, decide_eq_true_eq, decide_eq_true_eq] at hc
        exact hc
      have hc3 : inS a b x = true := by simp [inS]; omega
      rw [if_pos hc, if_pos hc3]; exact Int.le_refl _
    · rw [if_neg hc]; split <;> omega
  omega
/-! ### all jobs a time later -/
def shJ (d : Int) (x : Jb) : Jb := ⟨x.no, x.ready + d, x.due + d, x.need, x.alt⟩
def shT (d : Int) (x : Tk) : Tk := ⟨shJ d x.j, x.left⟩
def shP (d : Int) (p : Pc) : Pc := ⟨shJ d p.j, p.f + d, p.u + d⟩
def shS (d : Int) (x : Sx) : Sx := ⟨x.no, x.f + d, x.u + d⟩
theorem avail_sh (d t : Int) (x : Tk) : avail (t + d) (shT d x) = avail t x := by
  unfold avail shT shJ
  simp only
  congr 1
  exact decide_eq_decide.2 (by omega)
theorem next_sh (d t : Int) : ∀ ts : List Tk, next (t + d) (ts.map (shT d)) = (next t ts).map (· + d)
  | [] => rfl
  | x :: l => by
    simp only [List.map_cons, next, next_sh d t l]
    have e : (shT d x).j.ready = x.j.ready + d := rfl
    cases next t l with
    | none =>
      simp only [Option.map_none, e]
      by_cases h : t < x.j.ready
      · rw [if_pos h, if_pos (by omega)]; rfl
      · rw [if_neg h, if_neg (by omega)]; rfl
    | some u =>
      simp only [Option.map_some, e]
      by_cases h : t < x.j.ready ∧ x.j.ready < u
      · rw [if_pos h, if_pos (by omega)]; rfl
      · rw [if_neg h, if_neg (by omega)]; rfl
theorem best_sh {d t : Int} {ts : List Tk} {i : Nat} {x : Tk} (h : Best t ts i x) : Best (t + d) (ts.map (shT d)) i (shT d x) := by
  obtain ⟨h1, h2, h3⟩ := h
  refine ⟨by rw [List.getElem?_map, h1]; rfl, by rw [avail_sh]; exact h2, fun k y hk hy => ?_⟩
  rw [List.getElem?_map] at hk
  obtain ⟨z, hz, rfl⟩ := Option.map_eq_some_iff.1 hk
  rw [avail_sh] at hy
  have := h3 k z hz hy
  have e1 : (shT d x).j.due = x.j.due + d := rfl
  have e2 : (shT d z).j.due = z.j.due + d := rfl
  omega
theorem span_sh (d t : Int) (ts : List Tk) (x : Tk) : span1 (t + d) (ts.map (shT d)) (shT d x) = span1 t ts x := by
  unfold span1
  rw [next_sh]
  cases next t ts with
  | none => rfl
  | some u =>
    simp only [Option.map_some]
    rw [show u + d - (t + d) = u - t by omega]
    rfl
theorem R_sh (d : Int) : ∀ (t : Int) (ts : List Tk), R (t + d) (ts.map (shT d)) = (R t ts).map (shP d) := by
  have hun : ∀ t (ts : List Tk), (∀ y ∈ ts, avail t y = false) → ∀ y ∈ ts.map (shT d), avail (t + d) y = false := fun t ts h y hy => by
    obtain ⟨z, hz, rfl⟩ := List.mem_map.1 hy
    rw [avail_sh]; exact h z hz
  refine run_ind (P := fun t ts => R (t + d) (ts.map (shT d)) = (R t ts).map (shP d)) ?_ ?_ ?_
  · intro t ts h hn
    rw [R_end h hn, R_end (hun t ts h) (by rw [next_sh, hn]; rfl)]
    rfl
  · intro t u ts h hn ih
    rw [R_idle h hn, R_idle (hun t ts h) (u := u + d) (by rw [next_sh, hn]; rfl), ih]
  · intro t ts i x hb ih
    rw [R_work hb, R_work (best_sh (d := d) hb), span_sh, List.map_cons, ← ih, List.map_set]
    refine congr (congrArg List.cons ?_) ?_
    · simp only [shP, shT]
      congr 1
      omega
    · rw [show t + d + span1 t ts x = t + span1 t ts x + d by omega]
      rfl
/-- nothing to do before -/
theorem R_skip {t u : Int} {ts : List Tk} (htu : t ≤ u) (h : ∀ y ∈ ts, u ≤ y.j.ready) : R t ts = R u ts := by
  rcases Int.lt_or_eq_of_le htu with hlt | rfl
  · have hna : ∀ y ∈ ts, avail t y = false := fun y hy => by
      have := h y hy
      cases ha : avail t y
      · rfl
      · have := (avail_iff.1 ha).1; omega
    cases hn : next t ts with
    | none =>
      have h0 : ts = [] := by
        cases ts with
        | nil => rfl
        | cons y l => have h1 := next_none.1 hn y (by simp); have h2 := h y (by simp); omega
      subst h0
      rw [R_end hna hn, R_end (fun y hy => by simp at hy) rfl]
    | some v =>
      obtain ⟨n1, ⟨y, hy, hyr⟩, n3⟩ := next_some hn
      rw [R_idle hna hn]
      have huv : u ≤ v := by have := h y hy; omega
      rcases Int.lt_or_eq_of_le huv with h2 | rfl
      · have hnu : ∀ z ∈ ts, avail u z = false := fun z hz => by
          have h3 := n3 z hz (by have := h z hz; omega)
          cases ha : avail u z
          · rfl
          · have := (avail_iff.1 ha).1; omega
        have hnx : next u ts = some v := by
          cases hm : next u ts with
          | none => have := next_none.1 hm y hy; omega
          | some w =>
            obtain ⟨m1, ⟨z, hz, hzr⟩, m3⟩ := next_some hm
            have a := m3 y hy (by omega)
            have b := n3 z hz (by omega)
            congr 1
            omega
        rw [R_idle hnu hnx]
      · rfl
  · rfl
theorem pieces_sh {l : List Jb} (h : ∀ x ∈ l, rightJ x = true) {d : Int} (hd : 0 ≤ d) : pieces (l.map (shJ d)) = (pieces l).map (shP d) := by
  have e : start (l.map (shJ d)) = (start l).map (shT d) := by
    unfold start
    rw [List.map_map, List.map_map]; rfl
  unfold pieces
  rw [e, R_skip hd, ← R_sh, Int.zero_add]
  intro y hy
  obtain ⟨z, hz, rfl⟩ := List.mem_map.1 hy
  obtain ⟨w, hw, rfl⟩ := List.mem_map.1 hz
  have := rightJ_iff.1 (h w hw)
  show d ≤ w.ready + d
  omega
theorem runOk_sh {l : List Jb} (h : ∀ x ∈ l, rightJ x = true) {d : Int} (hd : 0 ≤ d) : runOk (l.map (shJ d)) = runOk l := by
  unfold runOk
  rw [pieces_sh h hd, List.all_map]
  refine List.all_congr rfl fun p => ?_
  exact decide_eq_decide.2 (by show p.u + d ≤ p.j.due + d ↔ _; omega)
theorem addS_sh (d : Int) (s : List Sx) (x : Sx) : addS (s.map (shS d)) (shS d x) = (addS s x).map (shS d) := by
  rcases list_cases s with rfl | ⟨r, y, rfl⟩
  · rfl
  · rw [List.map_append]
    by_cases hc : y.no = x.no ∧ y.u = x.f
    · rw [addS_join r y x hc, List.map_append]
      exact addS_join (r.map (shS d)) (shS d y) (shS d x) ⟨hc.1, by show y.u + d = x.f + d; omega⟩
    · rw [addS_more r y x hc, List.map_append, List.map_append]
      exact addS_more (r.map (shS d)) (shS d y) (shS d x) (fun h => hc ⟨h.1, by have : y.u + d = x.f + d := h.2; omega⟩)
theorem joined_sh (d : Int) : ∀ (r s : List Sx), joined (s.map (shS d)) (r.map (shS d)) = (joined s r).map (shS d)
  | [], s => rfl
  | x :: r, s => by
    show joined (addS (s.map (shS d)) (shS d x)) (r.map (shS d)) = _
    rw [addS_sh, joined_sh d r]; rfl
theorem plan_sh {l : List Jb} (h : ∀ x ∈ l, rightJ x = true) {d : Int} (hd : 0 ≤ d) : plan (l.map (shJ d)) = (plan l).map (shS d) := by
  unfold plan
  rw [pieces_sh h hd, ← joined_sh, List.map_map, List.map_map]
  rfl
theorem okL_sh {l : List Jb} (h : okL l = true) {d : Int} (hd : 0 ≤ d) (hx : ∀ x ∈ l, x.due + d ≤ 1099511627776) : okL (l.map (shJ d)) = true := by
  rw [okL_iff] at *
  refine ⟨fun y hy => ?_, List.pairwise_map.2 h.2⟩
  obtain ⟨z, hz, rfl⟩ := List.mem_map.1 hy
  have h1 := rightJ_iff.1 (h.1 z hz)
  have h2 := hx z hz
  rw [rightJ_iff]
  simp only [shJ]
  omega
end Go.Mine.Q
namespace Go.Mine.Q
/-- a job that is done before another one -/
def before (j y : Jb) : Prop := j.due < y.due ∨ (j.due = y.due ∧ j.no < y.no)
/-- a slice behind others -/
def GoodAt (l : List Jb) (s : List Sx) (x : Sx) : Prop := ∀ j ∈ l, doneN j.no s ≠ j.need → ¬ (j.ready < x.f ∧ lastU 0 s < x.f) ∧ (∀ y, jobOf l x.no = some y → ¬ (j.no ≠ x.no ∧ j.ready < x.u ∧ before j y))
def Good (l : List Jb) (s : List Sx) : Prop := ∀ a x b, s = a ++ x :: b → GoodAt l a x
theorem Good_nil (l : List Jb) : Good l [] := fun a x b h => by simp at h
theorem Good_snoc {l : List Jb} {s : List Sx} {x : Sx} (h : Good l s) (hx : GoodAt l s x) : Good l (s ++ [x]) := by
  intro a y b e
  rcases list_cases b with rfl | ⟨c, z, rfl⟩
  · obtain ⟨rfl, e2⟩ := List.append_inj' e rfl
    obtain rfl := (List.cons.inj e2).1
    exact hx
  · rw [show a ++ y :: (c ++ [z]) = (a ++ y :: c) ++ [z] by simp] at e
    obtain ⟨rfl, _⟩ := List.append_inj' e rfl
    exact h a y c rfl
theorem Good_init {l : List Jb} {s : List Sx} {x : Sx} (h : Good l (s ++ [x])) : Good l s ∧ GoodAt l s x := by
  refine ⟨fun a y b e => ?_, h s x [] rfl⟩
  exact h a y (b ++ [x]) (by rw [e]; simp)
theorem before_irr {ts : List Tk} (hp : (js ts).Pairwise fun x y => x.no < y.no) {i k : Nat} {x y : Tk} (hi : ts[i]? = some x) (hk : ts[k]? = some y) (h : x.j.no < y.j.no) : i < k := by
  have h1 : (js ts)[i]? = some x.j := by unfold js; rw [List.getElem?_map, hi]; rfl
  have h2 : (js ts)[k]? = some y.j := by unfold js; rw [List.getElem?_map, hk]; rfl
  obtain ⟨a1, a2⟩ := List.getElem?_eq_some_iff.1 h1
  obtain ⟨b1, b2⟩ := List.getElem?_eq_some_iff.1 h2
  rw [List.pairwise_iff_getElem] at hp
  rcases Nat.lt_trichotomy i k with h3 | h3 | h3
  · exact h3
  · subst h3; rw [hi] at hk; rw [Option.some.inj hk] at h; omega
  · have := hp k i b1 a1 h3; rw [a2, b2] at this; omega
/-- no job that is done before is ready and not done while another one is worked on -/
theorem best_first {t : Int} {ts : List Tk} (hp : (js ts).Pairwise fun x y => x.no < y.no) {i : Nat} {x : Tk} (hb : Best t ts i x) {k : Nat} {z : Tk} (hk : ts[k]? = some z) (hz : 0 < z.left) (hr : z.j.ready < t + span1 t ts x) : ¬ before z.j x.j := by
  intro hbf
  have hle : z.j.ready ≤ t := by
    rcases Int.lt_or_le t z.j.ready with h2 | h2
    · cases hn : next t ts with
      | none => exact absurd (next_none.1 hn z (List.mem_of_getElem? hk)) (by omega)
      | some u =>
        have h3 := (next_some hn).2.2 z (List.mem_of_getElem? hk) h2
        have h4 := span1_next (x := x) hn
        omega
    · exact h2
  have h1 := hb.2.2 k z hk (avail_iff.2 ⟨hle, hz⟩)
  rcases hbf with h | ⟨h, hno⟩
  · omega
  · have := before_irr hp hk hb.1 hno
    omega
theorem run_good (l : List Jb) (hl : l.Pairwise fun x y => x.no < y.no) : ∀ (t : Int) (ts : List Tk), js ts = l → WF ts → ∀ s : List Sx, Good l s → (∀ (k : Nat) (x : Tk), ts[k]? = some x → doneN x.j.no s = x.j.need - x.left) → (∀ x ∈ ts, 0 < x.left → x.j.ready < t → lastU 0 s = t) → lastU 0 s ≤ t →
    Good l (joined s ((R t ts).map sxOf)) := by
  refine run_ind (P := fun t ts => js ts = l → WF ts → ∀ s : List Sx, Good l s → (∀ (k : Nat) (x : Tk), ts[k]? = some x → doneN x.j.no s = x.j.need - x.left) → (∀ x ∈ ts, 0 < x.left → x.j.ready < t → lastU 0 s = t) → lastU 0 s ≤ t → Good l (joined s ((R t ts).map sxOf))) ?_ ?_ ?_
  · intro t ts h hn _ _ s hg _ _ _
    rw [R_end h hn]; exact hg
  · intro t u ts h hn ih hj hw s hg hd _ hlt
    rw [R_idle h hn]
    obtain ⟨n1, _, n3⟩ := next_some hn
    refine ih hj hw s hg hd (fun x hx hxl hr => ?_) (by omega)
    have h1 := h x hx
    rcases Int.lt_or_le t x.j.ready with h2 | h2
    · have := n3 x hx h2; omega
    · rw [avail_iff.2 ⟨h2, hxl⟩] at h1; cases h1
  · intro t ts i x hb ih hj hw s hg hd hk hlt
    rw [R_work hb, List.map_cons]
    have hp : (js ts).Pairwise fun x y => x.no < y.no := by rw [hj]; exact hl
    have hsp := span1_pos hb
    have hxm : x.j ∈ l := by rw [← hj]; exact List.mem_map.2 ⟨x, List.mem_of_getElem? hb.1, rfl⟩
    -- what this piece does not pass over
    have hfirst : ∀ j ∈ l, doneN j.no s ≠ j.need → ∀ y, jobOf l x.j.no = some y → ¬ (j.no ≠ x.j.no ∧ j.ready < t + span1 t ts x ∧ before j y) := by
      rintro j hjm hne y hy ⟨h1, h2, h3⟩
      rw [jobOf_mem hl hxm] at hy
      obtain rfl := Option.some.inj hy
      rw [← hj] at hjm
      obtain ⟨z, hz, rfl⟩ := List.mem_map.1 hjm
      obtain ⟨k, hzk⟩ := List.getElem?_of_mem hz
      have hzl := hd k z hzk
      have := hw z hz
      exact best_first hp hb hzk (by omega) h2 h3
    have e : joined s (sxOf ⟨x.j, t, t + span1 t ts x⟩ :: (R (t + span1 t ts x) (ts.set i (setLeft x (span1 t ts x)))).map sxOf) = joined (addS s (sxOf ⟨x.j, t, t + span1 t ts x⟩)) ((R (t + span1 t ts x) (ts.set i (setLeft x (span1 t ts x)))).map sxOf) := rfl
    rw [e]
    have hlast : lastU 0 (addS s (sxOf ⟨x.j, t, t + span1 t ts x⟩)) = t + span1 t ts x := by
      rcases list_cases s with rfl | ⟨r, y, rfl⟩
      · rfl
      · by_cases hc : y.no = x.j.no ∧ y.u = t
        · rw [addS_join r y _ hc]; simp [lastU_append, lastU, sxOf]
        · rw [addS_more r y _ hc]; simp [lastU_append, lastU, sxOf]
    refine ih (by rw [js_set hb.1]; exact hj) (WF_work hw hb) _ ?_ ?_ (fun z _ _ _ => hlast) (by rw [hlast]; exact Int.le_refl _)
    · -- the joined list is good
      rcases list_cases s with rfl | ⟨r, y, rfl⟩
      · refine Good_snoc (Good_nil l) fun j hjm hne => ⟨fun h => ?_, hfirst j hjm hne⟩
        have hjm2 := hjm
        rw [← hj] at hjm2
        obtain ⟨z, hz, rfl⟩ := List.mem_map.1 hjm2
        obtain ⟨k, hzk⟩ := List.getElem?_of_mem hz
        have hzl := hd k z hzk
        have := hw z hz
        have := hk z hz (by omega) h.1
        have h2 := h.2
        simp only [sxOf] at h2
        omega
      · by_cases hc : y.no = x.j.no ∧ y.u = t
        · rw [addS_join r y _ hc]
          obtain ⟨g1, g2⟩ := Good_init hg
          refine Good_snoc g1 fun j hjm hne => ?_
          obtain ⟨a1, _⟩ := g2 j hjm hne
          refine ⟨a1, fun w hwj h => ?_⟩
          simp only at hwj h
          have hne2 : doneN j.no (r ++ [y]) ≠ j.need := by
            simp only [doneN, sumF_append, sumF] at *
            rw [if_neg (fun e => h.1 e.symm)]
            omega
          exact hfirst j hjm hne2 w (by rw [← hc.1]; exact hwj) ⟨by rw [← hc.1]; exact h.1, h.2⟩
        · rw [addS_more r y _ hc]
          refine Good_snoc hg fun j hjm hne => ⟨fun h => ?_, hfirst j hjm hne⟩
          have hjm2 := hjm
          rw [← hj] at hjm2
          obtain ⟨z, hz, rfl⟩ := List.mem_map.1 hjm2
          obtain ⟨k, hzk⟩ := List.getElem?_of_mem hz
          have hzl := hd k z hzk
          have := hw z hz
          have := hk z hz (by omega) h.1
          have h2 := h.2
          simp only [sxOf] at h2
          omega
    · intro k z hzk
      rw [done_join]
      have hi := (List.getElem?_eq_some_iff.1 hb.1).1
      rw [List.getElem?_set] at hzk
      by_cases hik : i = k
      · subst hik
        rw [if_pos rfl, if_pos hi] at hzk
        obtain rfl := Option.some.inj hzk
        have := hd i x hb.1
        show doneN x.j.no (s ++ [sxOf ⟨x.j, t, t + span1 t ts x⟩]) = x.j.need - (x.left - span1 t ts x)
        simp only [doneN, sumF_append, sumF, sxOf, if_true] at *
        omega
      · rw [if_neg hik] at hzk
        have := hd k z hzk
        have hne : ¬ x.j.no = z.j.no := fun h => hik (nos_of hp hb.1 hzk h)
        simp only [doneN, sumF_append, sumF] at *
        rw [show (sxOf ⟨x.j, t, t + span1 t ts x⟩).no = x.j.no from rfl, if_neg hne]
        omega
theorem plan_good {l : List Jb} (h : okL l = true) : Good l (plan l) := by
  obtain ⟨h1, h2⟩ := okL_iff.1 h
  refine run_good l h2 0 (start l) (js_start l) (WF_start h1) [] (Good_nil l) (fun k x hk => ?_) (fun x hx _ hr => ?_) (Int.le_refl _)
  · unfold start at hk
    rw [List.getElem?_map] at hk
    obtain ⟨z, _, rfl⟩ := Option.map_eq_some_iff.1 hk
    simp only [doneN, sumF]; omega
  · obtain ⟨y, hy, rfl⟩ := List.mem_map.1 hx
    have := rightJ_iff.1 (h1 y hy)
    simp only at hr; omega
end Go.Mine.Q
namespace Go.Mine.Q
def runB (l : List Jb) : Bool := decide (chk l = 0) && runOk l
def runS (l : List Jb) : List Sx := if runB l = true then plan l else []
def sumL (ts : List Tk) : Int := sumF (·.left) ts
theorem sumL_done {ts : List Tk} (hw : WF ts) (h : sumL ts ≤ 0) : ∀ y ∈ ts, y.left ≤ 0 := fun y hy => by
  obtain ⟨k, hk⟩ := List.getElem?_of_mem hy
  have := sumF_mem (f := fun y : Tk => y.left) hk (fun z hz => (hw z hz).1)
  unfold sumL at h
  omega
theorem sumL_next {ts : List Tk} {t : Int} (h : 0 < sumL ts) (hn : ∀ y ∈ ts, avail t y = false) : ∃ u, next t ts = some u := by
  cases hx : next t ts with
  | some u => exact ⟨u, rfl⟩
  | none =>
    have h1 := next_none.1 hx
    have : sumL ts ≤ 0 := by
      unfold sumL
      have := sumF_le (f := fun y : Tk => y.left) (g := fun _ => 0) (l := ts) (fun y hy => by
        rcases Int.lt_or_le 0 y.left with h2 | h2
        · have h3 := hn y hy
          rw [avail_iff.2 ⟨h1 y hy, h2⟩] at h3; cases h3
        · exact h2)
      have hz : ∀ m : List Tk, sumF (fun _ => (0 : Int)) m = 0 := fun m => by induction m with
        | nil => rfl
        | cons x m ih => simp only [sumF, ih]; omega
      rw [hz] at this
      exact this
    omega
theorem sumL_work {ts : List Tk} {i : Nat} {x : Tk} (h : ts[i]? = some x) (n : Int) : sumL (ts.set i (setLeft x n)) = sumL ts - n := by
  unfold sumL
  rw [sumF_set _ h]
  simp only [setLeft]
  omega
theorem sumL_start (l : List Jb) (h : ∀ x ∈ l, rightJ x = true) : 0 ≤ sumL (start l) ∧ sumL (start l) ≤ l.length * 1048576 := by
  have hl : (start l).length = l.length := by unfold start; simp
  constructor
  · exact sumF_nonneg fun x hx => (WF_start h x hx).1
  · rw [← hl]
    refine sumF_bound fun x hx => ?_
    obtain ⟨y, hy, rfl⟩ := List.mem_map.1 hx
    exact (rightJ_iff.1 (h y hy)).2.2.2.2.2.2
theorem mu_start (l : List Jb) : mu 0 (start l) ≤ 2 * l.length := by
  unfold mu
  have h1 := List.countP_le_length (p := fun x : Tk => decide (0 < x.left)) (l := start l)
  have h2 := List.countP_le_length (p := fun x : Tk => decide (0 < x.j.ready)) (l := start l)
  have hl : (start l).length = l.length := by unfold start; simp
  omega
theorem addS_len (s : List Sx) (x : Sx) : (addS s x).length ≤ s.length + 1 := by
  rcases list_cases s with rfl | ⟨r, y, rfl⟩
  · simp [addS_nil]
  · by_cases hc : y.no = x.no ∧ y.u = x.f
    · rw [addS_join r y x hc]; simp
    · rw [addS_more r y x hc]; simp
def okP (p : Pc) : Bool := decide (p.u ≤ p.j.due)
/-- what stands between two steps of the run: the time, what is left, the slices so far -/
structure Run (l : List Jb) (t : Int) (ts : List Tk) (s : List Sx) : Prop where
  js_ : js ts = l
  wf : WF ts
  t0 : 0 ≤ t
  cap : t + sumL ts ≤ 1099511627776 + 67108864
  sum : sumL ts ≤ 67108864
  ok : (R t ts).all okP = runOk l
  out : joined s ((R t ts).map sxOf) = plan l
  len : s.length + mu t ts ≤ 128
theorem Run.start {l : List Jb} (h : ∀ x ∈ l, rightJ x = true) (h64 : l.length ≤ 64) : Run l 0 (Go.Mine.Q.start l) [] := by
  have h1 := sumL_start l h
  have h2 := mu_start l
  exact ⟨js_start l, WF_start h, Int.le_refl _, by omega, by omega, rfl, rfl, by simp; omega⟩
theorem Run.idle {l : List Jb} {t u : Int} {ts : List Tk} {s : List Sx} (h : Run l t ts s) (hr : ∀ x ∈ l, rightJ x = true) (hn : ∀ y ∈ ts, avail t y = false) (hu : next t ts = some u) : Run l u ts s := by
  obtain ⟨n1, ⟨y, hy, hyr⟩, _⟩ := next_some hu
  have hyl : y.j ∈ l := by rw [← h.js_]; exact List.mem_map.2 ⟨y, hy, rfl⟩
  have := rightJ_iff.1 (hr _ hyl)
  have h1 := h.sum
  have h2 := h.t0
  have h3 := mu_idle hu
  have h4 := h.len
  exact ⟨h.js_, h.wf, by omega, by omega, h1, by rw [← R_idle hn hu]; exact h.ok, by rw [← R_idle hn hu]; exact h.out, by omega⟩
theorem Run.work {l : List Jb} {t : Int} {ts : List Tk} {s : List Sx} (h : Run l t ts s) {i : Nat} {x : Tk} (hb : Best t ts i x) :
    (t + span1 t ts x ≤ x.j.due → Run l (t + span1 t ts x) (ts.set i (setLeft x (span1 t ts x))) (addS s ⟨x.j.no, t, t + span1 t ts x⟩)) ∧ (x.j.due < t + span1 t ts x → runOk l = false) := by
  have hsp := span1_pos hb
  have hok := h.ok
  have hout := h.out
  rw [R_work hb] at hok hout
  constructor
  · intro hd
    have h3 := mu_work hb
    have h4 := h.len
    have h5 := addS_len s ⟨x.j.no, t, t + span1 t ts x⟩
    have h6 := sumL_work hb.1 (span1 t ts x)
    have h7 := h.cap
    have h8 := h.sum
    have h9 := h.t0
    refine ⟨by rw [js_set hb.1]; exact h.js_, WF_work h.wf hb, by omega, by omega, by omega, ?_, hout, by omega⟩
    rw [← hok, List.all_cons]
    have : okP ⟨x.j, t, t + span1 t ts x⟩ = true := decide_eq_true hd
    rw [this, Bool.true_and]
  · intro hd
    rw [← hok, List.all_cons]
    have : okP ⟨x.j, t, t + span1 t ts x⟩ = false := decide_eq_false (by simp only; omega)
    rw [this, Bool.false_and]
theorem Run.done {l : List Jb} {t : Int} {ts : List Tk} {s : List Sx} (h : Run l t ts s) (hs : sumL ts ≤ 0) : runOk l = true ∧ s = plan l := by
  have h1 := R_done (sumL_done h.wf hs) t
  have h2 := h.ok
  have h3 := h.out
  rw [h1] at h2 h3
  exact ⟨h2.symm, h3⟩
end Go.Mine.Q
namespace Go.Mine.Q
structure Wk (l : List Jb) (j : Nat) (t : Int) (ts : List Tk) : Prop where
  js_ : js ts = l
  wf : WF ts
  t0 : 0 ≤ t
  cap : t + sumL ts ≤ 1099511627776 + 67108864
  sum0 : 0 ≤ sumL ts
  le : j ≤ (pieces l).length
  out : (pieces l).drop j = R t ts
theorem sumL_nonneg {ts : List Tk} (h : WF ts) : 0 ≤ sumL ts := sumF_nonneg fun x hx => (h x hx).1
theorem Wk.start {l : List Jb} (h : ∀ x ∈ l, rightJ x = true) (h64 : l.length ≤ 64) : Wk l 0 0 (Go.Mine.Q.start l) := by
  have h1 := sumL_start l h
  exact ⟨js_start l, WF_start h, Int.le_refl _, by omega, h1.1, Nat.zero_le _, rfl⟩
theorem sumL_cap {l : List Jb} {ts : List Tk} (hj : js ts = l) (hw : WF ts) (hr : ∀ x ∈ l, rightJ x = true) (h64 : l.length ≤ 64) : sumL ts ≤ 67108864 := by
  have h1 : sumF (fun x : Tk => x.left) ts ≤ ts.length * 1048576 := sumF_bound (fun y hy => by
    have := hw y hy
    have h2 := rightJ_iff.1 (hr y.j (by rw [← hj]; exact List.mem_map.2 ⟨y, hy, rfl⟩))
    omega)
  have h2 : ts.length = l.length := by rw [← hj]; unfold js; rw [List.length_map]
  unfold sumL
  omega
theorem Wk.idle {l : List Jb} {j : Nat} {t u : Int} {ts : List Tk} (h : Wk l j t ts) (hr : ∀ x ∈ l, rightJ x = true) (h64 : l.length ≤ 64) (hn : ∀ y ∈ ts, avail t y = false) (hu : next t ts = some u) : Wk l j u ts := by
  obtain ⟨n1, ⟨y, hy, hyr⟩, _⟩ := next_some hu
  have hyl : y.j ∈ l := by rw [← h.js_]; exact List.mem_map.2 ⟨y, hy, rfl⟩
  have := rightJ_iff.1 (hr _ hyl)
  have h1 := sumL_cap h.js_ h.wf hr h64
  have h2 := h.t0
  exact ⟨h.js_, h.wf, by omega, by omega, h.sum0, h.le, by rw [h.out, R_idle hn hu]⟩
theorem Wk.work {l : List Jb} {j : Nat} {t : Int} {ts : List Tk} (h : Wk l j t ts) {i : Nat} {x : Tk} (hb : Best t ts i x) :
    (pieces l)[j]? = some ⟨x.j, t, t + span1 t ts x⟩ ∧ Wk l (j + 1) (t + span1 t ts x) (ts.set i (setLeft x (span1 t ts x))) := by
  have hsp := span1_pos hb
  have hout := h.out
  rw [R_work hb] at hout
  have hjl : j < (pieces l).length := by
    rcases Nat.lt_or_ge j (pieces l).length with h1 | h1
    · exact h1
    · rw [List.drop_of_length_le h1] at hout; cases hout
  rw [List.drop_eq_getElem_cons hjl] at hout
  injection hout with e1 e2
  have h6 := sumL_work hb.1 (span1 t ts x)
  have h7 := h.cap
  have h9 := h.t0
  have hw := WF_work h.wf hb
  exact ⟨by rw [List.getElem?_eq_getElem hjl, e1], by rw [js_set hb.1]; exact h.js_, hw, by omega, by omega, sumL_nonneg hw, hjl, e2⟩
theorem Wk.fin {l : List Jb} {j : Nat} {t : Int} {ts : List Tk} (h : Wk l j t ts) (hn : ∀ y ∈ ts, avail t y = false) (hu : next t ts = none) : j = (pieces l).length := by
  have h1 := h.out
  rw [R_end hn hu] at h1
  have h2 := congrArg List.length h1
  have := h.le
  simp at h2
  omega
/-- the times at which the program looks anew -/
structure Times (l : List Jb) (tm : List Int) : Prop where
  inc : tm.Pairwise (· < ·)
  mem : ∀ k, k ∈ tm ↔ k = 0 ∨ ∃ x ∈ l, x.ready = k
theorem Times.lt {l : List Jb} {tm : List Int} (h : Times l tm) {i k : Nat} {a b : Int} (hi : tm[i]? = some a) (hk : tm[k]? = some b) (hik : i < k) : a < b := by
  obtain ⟨h1, rfl⟩ := List.getElem?_eq_some_iff.1 hi
  obtain ⟨h2, rfl⟩ := List.getElem?_eq_some_iff.1 hk
  exact List.pairwise_iff_getElem.1 h.inc i k h1 h2 hik
theorem Times.le {l : List Jb} {tm : List Int} (h : Times l tm) {i k : Nat} {a b : Int} (hi : tm[i]? = some a) (hk : tm[k]? = some b) (hab : a < b) : i < k := by
  rcases Nat.lt_trichotomy i k with h1 | h1 | h1
  · exact h1
  · subst h1; rw [hi] at hk; cases hk; omega
  · have := h.lt hk hi h1; omega
theorem Times.first {l : List Jb} {tm : List Int} (h : Times l tm) (hr : ∀ x ∈ l, rightJ x = true) : tm[0]? = some 0 := by
  obtain ⟨k, hk⟩ := List.getElem?_of_mem ((h.mem 0).2 (.inl rfl))
  rcases Nat.eq_zero_or_pos k with rfl | hp
  · exact hk
  · obtain ⟨a, ha⟩ : ∃ a, tm[0]? = some a := ⟨_, List.getElem?_eq_getElem (Nat.lt_trans hp (List.getElem?_eq_some_iff.1 hk).1)⟩
    have h1 := h.lt ha hk hp
    have h2 := (h.mem a).1 (List.mem_of_getElem? ha)
    rcases h2 with h2 | ⟨x, hx, h2⟩
    · omega
    · have := rightJ_iff.1 (hr x hx); omega
/-- from one of them on, the next one is the next time at which a job becomes ready -/
theorem Times.next {l : List Jb} {tm : List Int} (h : Times l tm) {ts : List Tk} (hj : js ts = l) {i : Nat} {a t : Int} (hi : tm[i]? = some a) (hat : a ≤ t) (h0 : 0 ≤ t) (hu : ∀ u, tm[i + 1]? = some u → t < u) : next t ts = tm[i + 1]? := by
  have hmem : ∀ y ∈ ts, y.j.ready ∈ tm := fun y hy => (h.mem _).2 (.inr ⟨y.j, by rw [← hj]; exact List.mem_map.2 ⟨y, hy, rfl⟩, rfl⟩)
  cases hn : Go.Mine.Q.next t ts with
  | none =>
    have h1 := next_none.1 hn
    cases hx : tm[i + 1]? with
    | none => rfl
    | some u =>
      have h2 := hu u hx
      rcases (h.mem u).1 (List.mem_of_getElem? hx) with h3 | ⟨x, hx', h3⟩
      · omega
      · rw [← hj] at hx'
        obtain ⟨y, hy, rfl⟩ := List.mem_map.1 hx'
        have := h1 y hy; omega
  | some u =>
    obtain ⟨h1, ⟨y, hy, hyr⟩, h3⟩ := next_some hn
    obtain ⟨k, hk⟩ := List.getElem?_of_mem (hmem y hy)
    rw [hyr] at hk
    have h4 := h.le hi hk (by omega)
    obtain ⟨v, hv⟩ : ∃ v, tm[i + 1]? = some v := ⟨_, List.getElem?_eq_getElem (by have := (List.getElem?_eq_some_iff.1 hk).1; omega)⟩
    rw [hv]
    have h5 := hu v hv
    rcases Nat.lt_or_ge (i + 1) k with h6 | h6
    · have h7 := h.lt hv hk h6
      rcases (h.mem v).1 (List.mem_of_getElem? hv) with h8 | ⟨x, hx', h8⟩
      · omega
      · rw [← hj] at hx'
        obtain ⟨z, hz, rfl⟩ := List.mem_map.1 hx'
        have := h3 z hz (by omega); omega
    · obtain rfl : k = i + 1 := by omega
      rw [hv] at hk
      exact hk.symm
/-- until when the program works -/
def untilT (tm : List Int) (i : Nat) : Int := (tm[i + 1]?).getD 2199023255552
theorem Times.span {l : List Jb} {tm : List Int} (h : Times l tm) {j : Nat} {ts : List Tk} {i : Nat} {a t : Int} (hk : Wk l j t ts) (hi : tm[i]? = some a) (hat : a ≤ t) (hu : t < untilT tm i) {q : Nat} {x : Tk} (hb : Best t ts q x) :
    span1 t ts x = (if x.left < untilT tm i - t then x.left else untilT tm i - t) := by
  have hn := h.next hk.js_ hi hat hk.t0 (fun u hu' => by unfold untilT at hu; rw [hu'] at hu; exact hu)
  unfold span1
  rw [hn]
  unfold untilT
  cases hx : tm[i + 1]? with
  | some u => simp only [Option.getD_some]
  | none =>
    simp only [Option.getD_none]
    have h1 := hk.cap
    have h2 := hk.t0
    have h3 : x.left ≤ sumL ts := sumF_mem (f := fun y : Tk => y.left) hb.1 (fun z hz => (hk.wf z hz).1)
    rw [if_pos (by omega)]
/-- where the inner loop ends -/
theorem Times.step {l : List Jb} {tm : List Int} (h : Times l tm) (hr : ∀ x ∈ l, rightJ x = true) (h64 : l.length ≤ 64) {j : Nat} {ts : List Tk} {i : Nat} {a t : Int} (hk : Wk l j t ts) (hi : tm[i]? = some a) (hat : a ≤ t) (htu : t ≤ untilT tm i)
    (he : t < untilT tm i → ∀ y ∈ ts, avail t y = false) : (∀ u, tm[i + 1]? = some u → Wk l j u ts) ∧ (tm[i + 1]? = none → j = (pieces l).length) := by
  have h1 := hk.cap
  have h2 := hk.sum0
  by_cases hlt : t < untilT tm i
  · have hn := h.next hk.js_ hi hat hk.t0 (fun u hu' => by unfold untilT at hlt; rw [hu'] at hlt; exact hlt)
    refine ⟨fun u hu => ?_, fun hu => ?_⟩
    · exact hk.idle hr h64 (he hlt) (hn.trans hu)
    · exact hk.fin (he hlt) (hn.trans hu)
  · have e : t = untilT tm i := by omega
    refine ⟨fun u hu => ?_, fun hu => ?_⟩
    · have : untilT tm i = u := by unfold untilT; rw [hu]; rfl
      rw [← this, ← e]; exact hk
    · have : untilT tm i = 2199023255552 := by unfold untilT; rw [hu]; rfl
      omega
theorem span_in {tm : List Int} {i : Nat} {t : Int} {x : Tk} (_h : t < untilT tm i) : t + (if x.left < untilT tm i - t then x.left else untilT tm i - t) ≤ untilT tm i := by
  split <;> omega
end Go.Mine.Q
namespace Go.Mine.Q
theorem R_len : ∀ (t : Int) (ts : List Tk), (R t ts).length ≤ mu t ts := by
  refine run_ind (P := fun t ts => (R t ts).length ≤ mu t ts) ?_ ?_ ?_
  · intro t ts h hn; rw [R_end h hn]; simp
  · intro t u ts h hn ih; rw [R_idle h hn]; have := mu_idle hn; omega
  · intro t ts i x hb ih; rw [R_work hb]; have := mu_work hb; simp only [List.length_cons]; omega
theorem R_mem : ∀ (t : Int) (ts : List Tk), ∀ p ∈ R t ts, p.j ∈ js ts := by
  refine run_ind (P := fun t ts => ∀ p ∈ R t ts, p.j ∈ js ts) ?_ ?_ ?_
  · intro t ts h hn p hp; rw [R_end h hn] at hp; simp at hp
  · intro t u ts h hn ih p hp; rw [R_idle h hn] at hp; exact ih p hp
  · intro t ts i x hb ih p hp
    rw [R_work hb] at hp
    rcases List.mem_cons.1 hp with rfl | hp
    · exact List.mem_map.2 ⟨x, List.mem_of_getElem? hb.1, rfl⟩
    · have := ih p hp; rwa [js_set hb.1] at this
theorem pieces_len {l : List Jb} (h64 : l.length ≤ 64) : (pieces l).length ≤ 128 := by
  have h1 := R_len 0 (start l)
  have h2 := mu_start l
  unfold pieces; omega
theorem pieces_mem {l : List Jb} {p : Pc} (h : p ∈ pieces l) : p.j ∈ l := by
  have := R_mem 0 (start l) p h
  rwa [js_start] at this
/-- the slices of the first pieces -/
def soFar (l : List Jb) (k : Nat) : List Sx := joined [] (((pieces l).take k).map sxOf)
theorem joined_len : ∀ (r s : List Sx), (joined s r).length ≤ s.length + r.length
  | [], s => by simp [joined]
  | x :: r, s => by
    have h1 := joined_len r (addS s x)
    have h2 := addS_len s x
    have : joined s (x :: r) = joined (addS s x) r := rfl
    rw [this]; simp only [List.length_cons]; omega
theorem soFar_len (l : List Jb) (k : Nat) (h64 : l.length ≤ 64) : (soFar l k).length ≤ 128 := by
  have h1 := joined_len (((pieces l).take k).map sxOf) []
  have h2 := pieces_len h64
  simp only [List.length_map, List.length_take, List.length_nil] at h1
  unfold soFar; omega
theorem soFar_zero (l : List Jb) : soFar l 0 = [] := by simp [soFar, joined]
theorem soFar_next {l : List Jb} {k : Nat} {p : Pc} (h : (pieces l)[k]? = some p) : soFar l (k + 1) = addS (soFar l k) (sxOf p) := by
  have : (pieces l).take (k + 1) = (pieces l).take k ++ [p] := by rw [List.take_add_one, h]; rfl
  unfold soFar
  rw [this]
  simp [joined]
theorem soFar_all (l : List Jb) : soFar l (pieces l).length = plan l := by simp [soFar, plan]
theorem runOk_no {l : List Jb} {p : Pc} (h : p ∈ pieces l) (hd : p.j.due < p.u) : runOk l = false := by
  unfold runOk
  rw [List.all_eq_false]
  exact ⟨p, h, by simp; omega⟩
theorem runOk_yes {l : List Jb} (h : ∀ p ∈ pieces l, p.u ≤ p.j.due) : runOk l = true := by
  unfold runOk
  rw [List.all_eq_true]
  exact fun p hp => decide_eq_true (h p hp)
theorem jobOf_none {l : List Jb} {n : Int} (h : ∀ x ∈ l, x.no ≠ n) : jobOf l n = none := by
  unfold jobOf
  rw [List.find?_eq_none]
  intro x hx; simpa using h x hx
theorem jobOf_snoc {l : List Jb} {x : Jb} (h : ∀ y ∈ l, y.no < x.no) (n : Int) : jobOf (l ++ [x]) n = if n = x.no then some x else jobOf l n := by
  by_cases e : n = x.no
  · subst e
    rw [if_pos rfl]
    unfold jobOf
    rw [List.find?_append]
    have h2 : l.find? (fun y => decide (y.no = x.no)) = none := jobOf_none fun y hy => by have := h y hy; omega
    rw [h2]; simp
  · rw [if_neg e]
    unfold jobOf
    rw [List.find?_append]
    have : List.find? (fun y : Jb => decide (y.no = n)) [x] = none := by simp; exact fun h => e h.symm
    rw [this]; simp
theorem take_lt {l : List Jb} (hp : l.Pairwise fun x y => x.no < y.no) {k : Nat} {x : Jb} (h : l[k]? = some x) : ∀ y ∈ l.take k, y.no < x.no := by
  intro y hy
  obtain ⟨i, hi⟩ := List.getElem?_of_mem hy
  obtain ⟨h1, h2⟩ := List.getElem?_eq_some_iff.1 hi
  obtain ⟨h3, h4⟩ := List.getElem?_eq_some_iff.1 h
  have hik : i < k := by simp at h1; omega
  have := List.pairwise_iff_getElem.1 hp i k (by omega) h3 hik
  simp at h2
  rw [h2, h4] at this; exact this
end Go.Mine.Q
namespace Go.Mine.Q
def lexLt (p q : Int × Int) : Prop := p.1 < q.1 ∨ (p.1 = q.1 ∧ p.2 < q.2)
instance (p q : Int × Int) : Decidable (lexLt p q) := by unfold lexLt; infer_instance
def fullP (l : List Jb) (p : Int × Int) : Bool := full l p.1 p.2
/-- the best one of some spans, so far -/
def upD (l : List Jb) (best : Option (Int × Int)) (p : Int × Int) : Option (Int × Int) :=
  if fullP l p = true then (match best with
    | none => some p
    | some q => if lexLt p q then some p else some q)
  else best
def spansJ (l : List Jb) : List (Int × Int) := l.flatMap fun x => l.map fun y => (x.ready, y.due)
def denyR (l : List Jb) : Option (Int × Int) := (spansJ l).foldl (upD l) none
/-- the first one of all -/
def FirstP (f : Int × Int → Bool) (ps : List (Int × Int)) (r : Option (Int × Int)) : Prop := match r with
  | none => ∀ p ∈ ps, f p = false
  | some q => q ∈ ps ∧ f q = true ∧ ∀ p ∈ ps, f p = true → ¬ lexLt p q
theorem FirstP.unique {f : Int × Int → Bool} {ps : List (Int × Int)} {r r' : Option (Int × Int)} (h : FirstP f ps r) (h' : FirstP f ps r') : r = r' := by
  cases r with
  | none =>
    cases r' with
    | none => rfl
    | some q => have := h q h'.1; rw [h'.2.1] at this; cases this
  | some q =>
    cases r' with
    | none => have := h' q h.1; rw [h.2.1] at this; cases this
    | some q' =>
      have h1 := h.2.2 q' h'.1 h'.2.1
      have h2 := h'.2.2 q h.1 h.2.1
      unfold lexLt at h1 h2
      have : q = q' := Prod.ext (by omega) (by omega)
      rw [this]
theorem FirstP.cong {f : Int × Int → Bool} {ps qs : List (Int × Int)} {r : Option (Int × Int)} (h : FirstP f ps r) (hm : ∀ p, p ∈ ps ↔ p ∈ qs) : FirstP f qs r := by
  cases r with
  | none => exact fun p hp => h p ((hm p).2 hp)
  | some q => exact ⟨(hm q).1 h.1, h.2.1, fun p hp => h.2.2 p ((hm p).2 hp)⟩
theorem upD_first {l : List Jb} : ∀ (qs ps : List (Int × Int)) (b : Option (Int × Int)), FirstP (fullP l) ps b → FirstP (fullP l) (ps ++ qs) (qs.foldl (upD l) b)
  | [], ps, b, h => by simpa using h
  | q :: qs, ps, b, h => by
    have e : ps ++ q :: qs = (ps ++ [q]) ++ qs := by simp
    rw [e, List.foldl_cons]
    refine upD_first qs (ps ++ [q]) _ ?_
    unfold upD
    cases hf : fullP l q
    · simp only [Bool.false_eq_true, if_false]
      cases b with
      | none =>
        intro p hp
        rcases List.mem_append.1 hp with hp | hp
        · exact h p hp
        · simp at hp; subst hp; exact hf
      | some r =>
        refine ⟨List.mem_append.2 (.inl h.1), h.2.1, fun p hp hpf => ?_⟩
        rcases List.mem_append.1 hp with hp | hp
        · exact h.2.2 p hp hpf
        · simp at hp; subst hp; rw [hf] at hpf; cases hpf
    · simp only [if_true]
      cases b with
      | none =>
        refine ⟨by simp, hf, fun p hp hpf => ?_⟩
        rcases List.mem_append.1 hp with hp | hp
        · have := h p hp; rw [hpf] at this; cases this
        · simp at hp; subst hp; unfold lexLt; omega
      | some r =>
        simp only
        by_cases hlt : lexLt q r
        · rw [if_pos hlt]
          refine ⟨by simp, hf, fun p hp hpf => ?_⟩
          rcases List.mem_append.1 hp with hp | hp
          · have := h.2.2 p hp hpf
            unfold lexLt at *; omega
          · simp at hp; subst hp; unfold lexLt; omega
        · rw [if_neg hlt]
          refine ⟨List.mem_append.2 (.inl h.1), h.2.1, fun p hp hpf => ?_⟩
          rcases List.mem_append.1 hp with hp | hp
          · exact h.2.2 p hp hpf
          · simp at hp; subst hp; exact hlt
theorem denyR_first (l : List Jb) : FirstP (fullP l) (spansJ l) (denyR l) := by
  exact upD_first (l := l) (spansJ l) [] none (by intro p hp; simp at hp)
/-- as the program looks: all spans of times in order -/
def spansT (F U : List Int) : List (Int × Int) := F.flatMap fun a => U.map fun b => (a, b)
theorem mem_spansT {F U : List Int} {p : Int × Int} : p ∈ spansT F U ↔ p.1 ∈ F ∧ p.2 ∈ U := by
  unfold spansT
  simp only [List.mem_flatMap, List.mem_map]
  constructor
  · rintro ⟨a, ha, b, hb, rfl⟩; exact ⟨ha, hb⟩
  · rintro ⟨ha, hb⟩; exact ⟨p.1, ha, p.2, hb, rfl⟩
theorem mem_spansJ {l : List Jb} {p : Int × Int} : p ∈ spansJ l ↔ p.1 ∈ l.map (·.ready) ∧ p.2 ∈ l.map (·.due) := by
  unfold spansJ
  simp only [List.mem_flatMap, List.mem_map]
  constructor
  · rintro ⟨x, hx, y, hy, rfl⟩; exact ⟨⟨x, hx, rfl⟩, ⟨y, hy, rfl⟩⟩
  · rintro ⟨⟨x, hx, h1⟩, ⟨y, hy, h2⟩⟩; exact ⟨x, hx, y, hy, by rw [h1, h2]⟩
theorem find_run {f : Int × Int → Bool} (a : Int) : ∀ {U : List Int} {q : Int × Int}, U.Pairwise (· ≤ ·) → (U.map fun b => (a, b)).find? f = some q → q.1 = a ∧ q.2 ∈ U ∧ f q = true ∧ ∀ b ∈ U, f (a, b) = true → q.2 ≤ b
  | [], q, _, h => by simp at h
  | u :: U, q, hs, h => by
    rw [List.pairwise_cons] at hs
    rw [List.map_cons, List.find?_cons] at h
    cases hf : f (a, u)
    · rw [hf] at h
      obtain ⟨h1, h2, h3, h4⟩ := find_run a hs.2 h
      refine ⟨h1, List.mem_cons_of_mem _ h2, h3, fun b hb hbf => ?_⟩
      rcases List.mem_cons.1 hb with rfl | hb
      · rw [hf] at hbf; cases hbf
      · exact h4 b hb hbf
    · rw [hf] at h
      obtain rfl := Option.some.inj h
      refine ⟨rfl, by simp, hf, fun b hb _ => ?_⟩
      rcases List.mem_cons.1 hb with rfl | hb
      · exact Int.le_refl _
      · exact hs.1 b hb
theorem find_first {f : Int × Int → Bool} : ∀ {F U : List Int}, F.Pairwise (· ≤ ·) → U.Pairwise (· ≤ ·) → FirstP f (spansT F U) ((spansT F U).find? f)
  | [], U, _, _ => by intro p hp; simp [spansT] at hp
  | a :: F, U, hF, hU => by
    rw [List.pairwise_cons] at hF
    have ih := find_first (f := f) hF.2 hU
    have hsp : spansT (a :: F) U = (U.map fun b => (a, b)) ++ spansT F U := rfl
    rw [hsp, List.find?_append]
    cases hr : (U.map fun b => (a, b)).find? f with
    | some q =>
      obtain ⟨h1, h2, h3, h4⟩ := find_run a hU hr
      rw [Option.some_or]
      refine ⟨List.mem_append.2 (.inl (List.mem_map.2 ⟨q.2, h2, Prod.ext h1.symm rfl⟩)), h3, fun p hp hpf => ?_⟩
      rcases List.mem_append.1 hp with hp | hp
      · obtain ⟨b, hb, rfl⟩ := List.mem_map.1 hp
        have := h4 b hb hpf
        unfold lexLt; omega
      · obtain ⟨p1, p2⟩ := mem_spansT.1 hp
        have h5 := hF.1 p.1 p1
        by_cases e : p.1 = a
        · have := h4 p.2 p2 (by rw [← e]; exact hpf)
          unfold lexLt; omega
        · unfold lexLt; omega
    | none =>
      have hn := List.find?_eq_none.1 hr
      rw [Option.none_or]
      cases hr2 : (spansT F U).find? f with
      | none =>
        rw [hr2] at ih
        intro p hp
        rcases List.mem_append.1 hp with hp | hp
        · simpa using hn p hp
        · exact ih p hp
      | some q =>
        rw [hr2] at ih
        refine ⟨List.mem_append.2 (.inr ih.1), ih.2.1, fun p hp hpf => ?_⟩
        rcases List.mem_append.1 hp with hp | hp
        · exact absurd hpf (hn p hp)
        · exact ih.2.2 p hp hpf
/-- the first of the times in order, a time twice or not -/
theorem deny_find {l : List Jb} {F U : List Int} (hF : F.Perm (l.map (·.ready))) (hU : U.Perm (l.map (·.due))) (sF : F.Pairwise (· ≤ ·)) (sU : U.Pairwise (· ≤ ·)) : (spansT F U).find? (fullP l) = denyR l := by
  refine (find_first sF sU).unique ((denyR_first l).cong fun p => ?_)
  rw [mem_spansJ, mem_spansT, hF.mem_iff, hU.mem_iff]
theorem denyR_some {l : List Jb} {q : Int × Int} (h : denyR l = some q) : full l q.1 q.2 = true := by
  have := denyR_first l
  rw [h] at this; exact this.2.1
theorem denyR_is (l : List Jb) : (denyR l).isSome = denied l := by
  have h := denyR_first l
  cases hr : denyR l with
  | some q =>
    rw [hr] at h
    obtain ⟨h1, h2⟩ := mem_spansJ.1 h.1
    obtain ⟨x, hx, h1⟩ := List.mem_map.1 h1
    obtain ⟨y, hy, h2⟩ := List.mem_map.1 h2
    symm
    unfold denied
    rw [Option.isSome_some, List.any_eq_true]
    refine ⟨x, hx, List.any_eq_true.2 ⟨y, hy, ?_⟩⟩
    rw [h1, h2]; exact h.2.1
  | none =>
    rw [hr] at h
    symm
    unfold denied
    rw [Option.isSome_none, List.any_eq_false]
    intro x hx
    rw [List.any_eq_true]
    rintro ⟨y, hy, hf⟩
    have := h (x.ready, y.due) (mem_spansJ.2 ⟨List.mem_map.2 ⟨x, hx, rfl⟩, List.mem_map.2 ⟨y, hy, rfl⟩⟩)
    unfold fullP at this
    rw [hf] at this; cases this
/-- what Deny says -/
def denyQ (l : List Jb) : Option (Int × Int) := if chk l = 0 then denyR l else none
def qA (r : Option (Int × Int)) : Int := (r.getD (0, 0)).1
def qB (r : Option (Int × Int)) : Int := (r.getD (0, 0)).2
end Go.Mine.Q
namespace Go.Mine.Q
/-! ### jobs that wait -/
def waits (l : List Jb) : Bool := l.all fun x => x.ready == 0
def errH (l : List Jb) : Int := if chk l ≠ 0 then chk l else if 10 < l.length then 2 else if waits l = true then 0 else 430
theorem errH_zero {l : List Jb} (h : errH l = 0) : chk l = 0 ∧ l.length ≤ 10 ∧ ∀ x ∈ l, x.ready = 0 := by
  unfold errH at h
  by_cases h1 : chk l = 0
  · rw [if_neg (by simp [h1])] at h
    by_cases h2 : 10 < l.length
    · rw [if_pos h2] at h; omega
    · rw [if_neg h2] at h
      by_cases h3 : waits l = true
      · refine ⟨h1, by omega, fun x hx => ?_⟩
        unfold waits at h3
        have := List.all_eq_true.1 h3 x hx
        simpa using this
      · rw [if_neg h3] at h; omega
  · rw [if_pos h1] at h; exact absurd h h1
/-- what is due by a time needs no more than that -/
def dueN (m : List Jb) (D : Int) : Int := sumF (fun y => if y.due ≤ D then y.need else 0) m
def inTime (m : List Jb) : Bool := m.all fun x => decide (dueN m x.due ≤ x.due)
theorem inTime_iff {m : List Jb} : inTime m = true ↔ ∀ x ∈ m, dueN m x.due ≤ x.due := by
  unfold inTime
  rw [List.all_eq_true]
  exact ⟨fun h x hx => of_decide_eq_true (h x hx), fun h x hx => decide_eq_true (h x hx)⟩
theorem wrk_wait {m : List Jb} (h : ∀ x ∈ m, x.ready = 0) (D : Int) : wrk m 0 D = dueN m D := by
  unfold wrk dueN
  refine sumF_congr fun x hx => ?_
  have := h x hx
  simp only [inS, this, Int.le_refl, decide_true, Bool.true_and, decide_eq_true_eq]
theorem runOk_wait {m : List Jb} (ho : okL m = true) (h : ∀ x ∈ m, x.ready = 0) : runOk m = inTime m := by
  rw [ok_not_denied ho, Bool.eq_iff_iff, inTime_iff, Bool.not_eq_true', ← Bool.not_eq_true]
  unfold denied
  constructor
  · intro hd x hx
    refine Int.not_lt.1 fun hlt => hd ?_
    rw [List.any_eq_true]
    refine ⟨x, hx, List.any_eq_true.2 ⟨x, hx, ?_⟩⟩
    have hr := rightJ_iff.1 ((okL_iff.1 ho).1 x hx)
    rw [h x hx] at hr ⊢
    rw [full_iff, wrk_wait h]
    omega
  · intro hi hd
    obtain ⟨x, hx, hy⟩ := List.any_eq_true.1 hd
    obtain ⟨y, hym, hf⟩ := List.any_eq_true.1 hy
    rw [h x hx, full_iff, wrk_wait h] at hf
    have := hi y hym
    omega
/-- the greatest of those due by a time -/
theorem exists_last (D : Int) : ∀ {m : List Jb}, (∃ z ∈ m, z.due ≤ D) → ∃ z ∈ m, z.due ≤ D ∧ ∀ y ∈ m, y.due ≤ D → y.due ≤ z.due
  | [], h => by obtain ⟨z, hz, _⟩ := h; simp at hz
  | x :: m, h => by
    by_cases hm : ∃ z ∈ m, z.due ≤ D
    · obtain ⟨z, hz, h1, h2⟩ := exists_last D hm
      by_cases hx : x.due ≤ D ∧ z.due < x.due
      · refine ⟨x, by simp, hx.1, fun y hy hyD => ?_⟩
        rcases List.mem_cons.1 hy with rfl | hy
        · exact Int.le_refl _
        · have := h2 y hy hyD; omega
      · refine ⟨z, List.mem_cons_of_mem _ hz, h1, fun y hy hyD => ?_⟩
        rcases List.mem_cons.1 hy with rfl | hy
        · omega
        · exact h2 y hy hyD
    · obtain ⟨z, hz, hzD⟩ := h
      rcases List.mem_cons.1 hz with rfl | hz
      · refine ⟨z, by simp, hzD, fun y hy hyD => ?_⟩
        rcases List.mem_cons.1 hy with rfl | hy
        · exact Int.le_refl _
        · exact absurd ⟨y, hy, hyD⟩ hm
      · exact absurd ⟨z, hz, hzD⟩ hm
theorem dueN_all {m : List Jb} (h : inTime m = true) {D : Int} (hD : ∃ z ∈ m, z.due ≤ D) : dueN m D ≤ D := by
  obtain ⟨z, hz, h1, h2⟩ := exists_last D hD
  have h3 := inTime_iff.1 h z hz
  have : dueN m D = dueN m z.due := by
    unfold dueN
    refine sumF_congr fun y hy => ?_
    by_cases hy' : y.due ≤ D
    · rw [if_pos hy', if_pos (h2 y hy hy')]
    · rw [if_neg hy', if_neg (by omega)]
  omega
theorem dueN_sub {a b : List Jb} (h : a.Sublist b) (hn : ∀ y ∈ b, 0 ≤ y.need) (D : Int) : dueN a D ≤ dueN b D :=
  sumF_sublist h fun y hy => by have := hn y hy; split <;> omega
theorem inTime_sub {a b : List Jb} (h : a.Sublist b) (hn : ∀ y ∈ b, 0 ≤ y.need) (hb : inTime b = true) : inTime a = true :=
  inTime_iff.2 fun x hx => Int.le_trans (dueN_sub h hn x.due) (inTime_iff.1 hb x (h.subset hx))
/-! ### in the order of the dues -/
def seqGo : Int → List Jb → Bool
  | _, [] => true
  | s, x :: r => decide (s + x.need ≤ x.due) && seqGo (s + x.need) r
theorem seqGo_iff : ∀ (p : List Jb) (s : Int), seqGo s p = true ↔ ∀ a x b, p = a ++ x :: b → s + sumF (·.need) a + x.need ≤ x.due
  | [], s => by simp [seqGo]
  | y :: p, s => by
    simp only [seqGo, Bool.and_eq_true, decide_eq_true_eq, seqGo_iff p]
    constructor
    · rintro ⟨h1, h2⟩ a x b e
      cases a with
      | nil =>
        simp only [List.nil_append, List.cons.injEq] at e
        obtain ⟨rfl, _⟩ := e
        simp only [sumF]; omega
      | cons z a =>
        simp only [List.cons_append, List.cons.injEq] at e
        obtain ⟨rfl, e⟩ := e
        have := h2 a x b e
        simp only [sumF]; omega
    · intro h
      refine ⟨by have := h [] y p rfl; simp only [sumF] at this; omega, fun a x b e => ?_⟩
      have := h (y :: a) x b (by rw [e]; rfl)
      simp only [sumF] at this; omega
theorem split_due (D : Int) : ∀ {p : List Jb}, p.Pairwise (fun x y => x.due ≤ y.due) → ∃ q r, p = q ++ r ∧ (∀ y ∈ q, y.due ≤ D) ∧ ∀ y ∈ r, D < y.due
  | [], _ => ⟨[], [], rfl, by simp, by simp⟩
  | x :: p, h => by
    rw [List.pairwise_cons] at h
    by_cases hx : x.due ≤ D
    · obtain ⟨q, r, e, h1, h2⟩ := split_due D h.2
      refine ⟨x :: q, r, by rw [e]; rfl, fun y hy => ?_, h2⟩
      rcases List.mem_cons.1 hy with rfl | hy
      · exact hx
      · exact h1 y hy
    · refine ⟨[], x :: p, rfl, by simp, fun y hy => ?_⟩
      rcases List.mem_cons.1 hy with rfl | hy
      · omega
      · have := h.1 y hy; omega
theorem sumF_all {f g : Jb → Int} {l : List Jb} (h : ∀ x ∈ l, f x = g x) : sumF f l = sumF g l := sumF_congr h
theorem sumF_zero {f : Jb → Int} {l : List Jb} (h : ∀ x ∈ l, f x = 0) : sumF f l = 0 := by
  induction l with
  | nil => rfl
  | cons x l ih =>
    have := h x (by simp)
    have := ih fun y hy => h y (by simp [hy])
    simp only [sumF]; omega
theorem sumF_perm {f : Jb → Int} {a b : List Jb} (h : a.Perm b) : sumF f a = sumF f b := by
  induction h with
  | nil => rfl
  | cons x _ ih => simp only [sumF, ih]
  | swap x y l => simp only [sumF]; omega
  | trans _ _ h1 h2 => rw [h1, h2]
theorem seq_inTime {m p : List Jb} (hp : p.Perm m) (hs : p.Pairwise fun x y => x.due ≤ y.due) (hn : ∀ y ∈ m, 0 ≤ y.need) : seqGo 0 p = inTime m := by
  rw [Bool.eq_iff_iff, seqGo_iff, inTime_iff]
  have hD : ∀ D, dueN m D = dueN p D := fun D => (sumF_perm hp).symm
  have hn' : ∀ y ∈ p, 0 ≤ y.need := fun y hy => hn y (hp.subset hy)
  constructor
  · intro h x hx
    rw [hD]
    obtain ⟨q, r, e, h1, h2⟩ := split_due x.due hs
    have hxq : x ∈ q := by
      have := hp.symm.subset hx
      rw [e] at this
      rcases List.mem_append.1 this with h3 | h3
      · exact h3
      · have := h2 x h3; omega
    rcases list_cases q with rfl | ⟨a, z, rfl⟩
    · simp at hxq
    · have h3 := h a z r (by rw [e]; simp)
      have hz := h1 z (by simp)
      have e2 : dueN p x.due = sumF (·.need) a + z.need := by
        unfold dueN
        rw [e, sumF_append, sumF_append]
        rw [sumF_all (f := fun y : Jb => if y.due ≤ x.due then y.need else 0) (g := (·.need)) (l := a) fun y hy => if_pos (h1 y (by simp [hy]))]
        rw [sumF_zero (l := r) fun y hy => if_neg (by have := h2 y hy; omega)]
        simp only [sumF, if_pos hz]; omega
      omega
  · intro h a x b e
    have hx := h x (hp.subset (by rw [e]; simp))
    rw [hD] at hx
    have e2 : sumF (·.need) a + x.need ≤ dueN p x.due := by
      unfold dueN
      rw [e] at hs
      rw [List.pairwise_append] at hs
      rw [e, sumF_append]
      rw [sumF_all (f := fun y : Jb => if y.due ≤ x.due then y.need else 0) (g := (·.need)) (l := a) fun y hy => if_pos (hs.2.2 y hy x (by simp))]
      have h5 : 0 ≤ sumF (fun y : Jb => if y.due ≤ x.due then y.need else 0) b := sumF_nonneg fun y hy => by
        have := hn' y (by rw [e]; simp [hy]); split <;> omega
      simp only [sumF, Int.le_refl, if_true]; omega
    omega
end Go.Mine.Q
namespace Go.Mine.Q
theorem wrk_from {m : List Jb} {a : Int} (h : ∀ x ∈ m, x.ready = a) (D : Int) : wrk m a D = dueN m D := by
  unfold wrk dueN
  refine sumF_congr fun x hx => ?_
  have := h x hx
  simp only [inS, this, Int.le_refl, decide_true, Bool.true_and, decide_eq_true_eq]
def inFrom (a : Int) (m : List Jb) : Bool := m.all fun x => decide (dueN m x.due ≤ x.due - a)
theorem inFrom_iff {a : Int} {m : List Jb} : inFrom a m = true ↔ ∀ x ∈ m, dueN m x.due ≤ x.due - a := by
  unfold inFrom
  rw [List.all_eq_true]
  exact ⟨fun h x hx => of_decide_eq_true (h x hx), fun h x hx => decide_eq_true (h x hx)⟩
theorem runOk_from {m : List Jb} {a : Int} (ho : okL m = true) (h : ∀ x ∈ m, x.ready = a) : runOk m = inFrom a m := by
  rw [ok_not_denied ho, Bool.eq_iff_iff, inFrom_iff, Bool.not_eq_true', ← Bool.not_eq_true]
  unfold denied
  constructor
  · intro hd x hx
    refine Int.not_lt.1 fun hlt => hd ?_
    rw [List.any_eq_true]
    refine ⟨x, hx, List.any_eq_true.2 ⟨x, hx, ?_⟩⟩
    have hr := rightJ_iff.1 ((okL_iff.1 ho).1 x hx)
    have h1 := h x hx
    rw [full_iff, h1, wrk_from h]
    omega
  · intro hi hd
    obtain ⟨x, hx, hy⟩ := List.any_eq_true.1 hd
    obtain ⟨y, hym, hf⟩ := List.any_eq_true.1 hy
    rw [h x hx, full_iff, wrk_from h] at hf
    have := hi y hym
    omega
/-- the jobs that portions make -/
def mkJ (a : Int) (i : Nat) (t n : Int) : Jb := ⟨i, a, a + t, n, false⟩
def useJ (t n : Int) : Bool := decide (1 ≤ t) && (decide (1 ≤ n) && decide (n ≤ 1048576))
def jobsGo (a : Int) : Nat → List Int → List Int → List Jb
  | i, t :: T, n :: N => (if useJ t n = true then [mkJ a i t n] else []) ++ jobsGo a (i + 1) T N
  | _, _, _ => []
theorem jobs_mem {a : Int} : ∀ {T N : List Int} {i : Nat} {x : Jb}, x ∈ jobsGo a i T N → ∃ (k : Nat) (t n : Int), T[k]? = some t ∧ N[k]? = some n ∧ useJ t n = true ∧ x = mkJ a (i + k) t n
  | [], _, _, _, h => by simp [jobsGo] at h
  | _ :: _, [], _, _, h => by simp [jobsGo] at h
  | t :: T, n :: N, i, x, h => by
    unfold jobsGo at h
    rcases List.mem_append.1 h with h | h
    · split at h
      · rename_i hu
        rw [List.mem_singleton] at h
        exact ⟨0, t, n, rfl, rfl, hu, h⟩
      · simp at h
    · obtain ⟨k, t', n', h1, h2, h3, h4⟩ := jobs_mem h
      exact ⟨k + 1, t', n', by simpa using h1, by simpa using h2, h3, by rw [h4, show i + 1 + k = i + (k + 1) by omega]⟩
theorem jobs_inc {a : Int} : ∀ (T N : List Int) (i : Nat), (jobsGo a i T N).Pairwise fun x y => x.no < y.no
  | [], _, _ => by simp [jobsGo]
  | _ :: _, [], _ => by simp [jobsGo]
  | t :: T, n :: N, i => by
    unfold jobsGo
    rw [List.pairwise_append]
    refine ⟨by split <;> simp, jobs_inc T N (i + 1), fun x hx y hy => ?_⟩
    obtain ⟨k, _, _, _, _, _, e⟩ := jobs_mem hy
    split at hx
    · rw [List.mem_singleton] at hx
      subst hx e
      unfold mkJ
      dsimp only; omega
    · simp at hx
theorem jobs_len {a : Int} : ∀ (T N : List Int) (i : Nat), (jobsGo a i T N).length ≤ T.length
  | [], _, _ => by simp [jobsGo]
  | _ :: _, [], _ => by simp [jobsGo]
  | t :: T, n :: N, i => by
    have := jobs_len (a := a) T N (i + 1)
    unfold jobsGo
    rw [List.length_append]
    simp only [List.length_cons]
    split
    · simp only [List.length_singleton]; omega
    · simp only [List.length_nil]; omega
/-- one more -/
theorem jobs_snoc {a : Int} : ∀ {T N : List Int} {i k : Nat} {t n : Int}, T[k]? = some t → N[k]? = some n → jobsGo a i (T.take (k + 1)) (N.take (k + 1)) = jobsGo a i (T.take k) (N.take k) ++ (if useJ t n = true then [mkJ a (i + k) t n] else [])
  | [], _, _, _, _, _, h, _ => by simp at h
  | _ :: _, [], _, _, _, _, _, h => by simp at h
  | t' :: T, n' :: N, i, 0, t, n, h1, h2 => by
    simp only [List.getElem?_cons_zero, Option.some.injEq] at h1 h2
    subst h1 h2
    simp [jobsGo]
  | t' :: T, n' :: N, i, k + 1, t, n, h1, h2 => by
    simp only [List.getElem?_cons_succ] at h1 h2
    have := jobs_snoc (a := a) (i := i + 1) h1 h2
    rw [List.take_succ_cons, List.take_succ_cons, jobsGo, this, List.take_succ_cons, List.take_succ_cons, jobsGo, List.append_assoc, show i + 1 + k = i + (k + 1) by omega]
theorem jobs_right {a : Int} (ha : 0 ≤ a ∧ a < 549755813888) {T N : List Int} (hT : ∀ t ∈ T, t ≤ 1073741824) (hl : T.length ≤ 6) : okL (jobsGo a 0 T N) = true ∧ (∀ x ∈ jobsGo a 0 T N, x.ready = a) ∧ (jobsGo a 0 T N).length ≤ 6 := by
  refine ⟨okL_iff.2 ⟨fun x hx => ?_, jobs_inc T N 0⟩, fun x hx => ?_, Nat.le_trans (jobs_len T N 0) hl⟩
  · obtain ⟨k, t, n, h1, h2, h3, rfl⟩ := jobs_mem hx
    have h4 := hT t (List.mem_of_getElem? h1)
    have h5 := (List.getElem?_eq_some_iff.1 h1).1
    unfold useJ at h3
    simp only [Bool.and_eq_true, decide_eq_true_eq] at h3
    rw [rightJ_iff]
    unfold mkJ
    dsimp only
    omega
  · obtain ⟨k, t, n, h1, h2, h3, rfl⟩ := jobs_mem hx
    rfl
end Go.Mine.Q
