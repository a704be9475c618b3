/-
  shed, plainly: which jobs are kept; in time or not.
  shed, plainly: choices by number, what is lost, the best one.
  shed, plainly: which numbers can be kept; the laws.
-/
import Derived.Test.YtbkokljelopcnaaQM1
namespace Go.Mine.Q
/-! ### jobs that wait -/
def waits (l : List Jb) : Bool := l.all fun x => x.ready == 0
def errH (l : List Jb) : Int := if chk l ≠ 0 then chk l else if 10 < l.length then 2 else if waits l = true then 0 else 430
theorem errH_zero {l : List Jb} (h : errH l = 0) : chk l = 0 ∧ l.length ≤ 10 ∧ ∀ x ∈ l, x.ready = 0 := by
  unfold errH at h
  by_cases h1 : chk l = 0
  · rw [if_neg (by simp [h1])] at h
    by_cases h2 : 10 < l.length
    · rw [if_pos h2] at h; omega
    · rw [if_neg h2] at h
      by_cases h3 : waits l = true
      · refine ⟨h1, by omega, fun x hx => ?_⟩
        unfold waits at h3
        have := List.all_eq_true.1 h3 x hx
        simpa using this
      · rw [if_neg h3] at h; omega
  · rw [if_pos h1] at h; exact absurd h h1
/-- what is due by a time needs no more than that -/
def dueN (m : List Jb) (D : Int) : Int := sumF (fun y => if y.due ≤ D then y.need else 0) m
def inTime (m : List Jb) : Bool := m.all fun x => decide (dueN m x.due ≤ x.due)
theorem inTime_iff {m : List Jb} : inTime m = true ↔ ∀ x ∈ m, dueN m x.due ≤ x.due := by
  unfold inTime
  rw [List.all_eq_true]
  exact ⟨fun h x hx => of_decide_eq_true (h x hx), fun h x hx => decide_eq_true (h x hx)⟩
theorem wrk_wait {m : List Jb} (h : ∀ x ∈ m, x.ready = 0) (D : Int) : wrk m 0 D = dueN m D := by
  unfold wrk dueN
  refine sumF_congr fun x hx => ?_
  have := h x hx
  simp only [inS, this, Int.le_refl, decide_true, Bool.true_and, decide_eq_true_eq]
theorem runOk_wait {m : List Jb} (ho : okL m = true) (h : ∀ x ∈ m, x.ready = 0) : runOk m = inTime m := by
  rw [ok_not_denied ho, Bool.eq_iff_iff, inTime_iff, Bool.not_eq_true', ← Bool.not_eq_true]
  unfold denied
  constructor
  · intro hd x hx
    refine Int.not_lt.1 fun hlt => hd ?_
    rw [List.any_eq_true]
    refine ⟨x, hx, List.any_eq_true.2 ⟨x, hx, ?_⟩⟩
    have hr := rightJ_iff.1 ((okL_iff.1 ho).1 x hx)
    rw [h x hx] at hr ⊢
    rw [full_iff, wrk_wait h]
    omega
  · intro hi hd
    obtain ⟨x, hx, hy⟩ := List.any_eq_true.1 hd
    obtain ⟨y, hym, hf⟩ := List.any_eq_true.1 hy
    rw [h x hx, full_iff, wrk_wait h] at hf
    have := hi y hym
    omega
/-- the greatest of those due by a time -/
theorem exists_last (D : Int) : ∀ {m : List Jb}, (∃ z ∈ m, z.due ≤ D) → ∃ z ∈ m, z.due ≤ D ∧ ∀ y ∈ m, y.due ≤ D → y.due ≤ z.due
  | [], h => by obtain ⟨z, hz, _⟩ := h; simp at hz
  | x :: m, h => by
    by_cases hm : ∃ z ∈ m, z.due ≤ D
    · obtain ⟨z, hz, h1, h2⟩ := exists_last D hm
      by_cases hx : x.due ≤ D ∧ z.due < x.due
      · refine ⟨x, by simp, hx.1, fun y hy hyD => ?_⟩
        rcases List.mem_cons.1 hy with rfl | hy
        · exact Int.le_refl _
        · have := h2 y hy hyD; omega
      · refine ⟨z, List.mem_cons_of_mem _ hz, h1, fun y hy hyD => ?_⟩
        rcases List.mem_cons.1 hy with rfl | hy
        · omega
        · exact h2 y hy hyD
    · obtain ⟨z, hz, hzD⟩ := h
      rcases List.mem_cons.1 hz with rfl | hz
      · refine ⟨z, by simp, hzD, fun y hy hyD => ?_⟩
        rcases List.mem_cons.1 hy with rfl | hy
        · exact Int.le_refl _
        · exact absurd ⟨y, hy, hyD⟩ hm
      · exact absurd ⟨z, hz, hzD⟩ hm
theorem dueN_all {m : List Jb} (h : inTime m = true) {D : Int} (hD : ∃ z ∈ m, z.due ≤ D) : dueN m D ≤ D := by
  obtain ⟨z, hz, h1, h2⟩ := exists_last D hD
  have h3 := inTime_iff.1 h z hz
  have : dueN m D = dueN m z.due := by
    unfold dueN
    refine sumF_congr fun y hy => ?_
    by_cases hy' : y.due ≤ D
    · rw [if_pos hy', if_pos (h2 y hy hy')]
    · rw [if_neg hy', if_neg (by omega)]
  omega
theorem dueN_sub {a b : List Jb} (h : a.Sublist b) (hn : ∀ y ∈ b, 0 ≤ y.need) (D : Int) : dueN a D ≤ dueN b D :=
  sumF_sublist h fun y hy => by have := hn y hy; split <;> omega
theorem inTime_sub {a b : List Jb} (h : a.Sublist b) (hn : ∀ y ∈ b, 0 ≤ y.need) (hb : inTime b = true) : inTime a = true :=
  inTime_iff.2 fun x hx => Int.le_trans (dueN_sub h hn x.due) (inTime_iff.1 hb x (h.subset hx))
/-! ### in the order of the dues -/
def seqGo : Int → List Jb → Bool
  | _, [] => true
  | s, x :: r => decide (s + x.need ≤ x.due) && seqGo (s + x.need) r
theorem seqGo_iff : ∀ (p : List Jb) (s : Int), seqGo s p = true ↔ ∀ a x b, p = a ++ x :: b → s + sumF (·.need) a + x.need ≤ x.due
  | [], s => by simp [seqGo]
  | y :: p, s => by
    simp only [seqGo, Bool.and_eq_true, decide_eq_true_eq, seqGo_iff p]
    constructor
    · rintro ⟨h1, h2⟩ a x b e
      cases a with
      | nil =>
        simp only [List.nil_append, List.cons.injEq] at e
        obtain ⟨rfl, _⟩ := e
        simp only [sumF]; omega
      | cons z a =>
        simp only [List.cons_append, List.cons.injEq] at e
        obtain ⟨rfl, e⟩ := e
        have := h2 a x b e
        simp only [sumF]; omega
    · intro h
      refine ⟨by have := h [] y p rfl; simp only [sumF] at this; omega, fun a x b e => ?_⟩
      have := h (y :: a) x b (by rw [e]; rfl)
      simp only [sumF] at this; omega
theorem split_due (D : Int) : ∀ {p : List Jb}, p.Pairwise (fun x y => x.due ≤ y.due) → ∃ q r, p = q ++ r ∧ (∀ y ∈ q, y.due ≤ D) ∧ ∀ y ∈ r, D < y.due
  | [], _ => ⟨[], [], rfl, by simp, by simp⟩
  | x :: p, h => by
    rw [List.pairwise_cons] at h
    by_cases hx : x.due ≤ D
    · obtain ⟨q, r, e, h1, h2⟩ := split_due D h.2
      refine ⟨x :: q, r, by rw [e]; rfl, fun y hy => ?_, h2⟩
      rcases List.mem_cons.1 hy with rfl | hy
      · exact hx
      · exact h1 y hy
    · refine ⟨[], x :: p, rfl, by simp, fun y hy => ?_⟩
      rcases List.mem_cons.1 hy with rfl | hy
      · omega
      · have := h.1 y hy; omega
theorem sumF_all {f g : Jb → Int} {l : List Jb} (h : ∀ x ∈ l, f x = g x) : sumF f l = sumF g l := sumF_congr h
theorem sumF_zero {f : Jb → Int} {l : List Jb} (h : ∀ x ∈ l, f x = 0) : sumF f l = 0 := by
  induction l with
  | nil => rfl
  | cons x l ih =>
    have := h x (by simp)
    have := ih fun y hy => h y (by simp [hy])
    simp only [sumF]; omega
theorem sumF_perm {f : Jb → Int} {a b : List Jb} (h : a.Perm b) : sumF f a = sumF f b := by
  induction h with
  | nil => rfl
  | cons x _ ih => simp only [sumF, ih]
  | swap x y l => simp only [sumF]; omega
  | trans _ _ h1 h2 => rw [h1, h2]
theorem seq_inTime {m p : List Jb} (hp : p.Perm m) (hs : p.Pairwise fun x y => x.due ≤ y.due) (hn : ∀ y ∈ m, 0 ≤ y.need) : seqGo 0 p = inTime m := by
  rw [Bool.eq_iff_iff, seqGo_iff, inTime_iff]
  have hD : ∀ D, dueN m D = dueN p D := fun D => (sumF_perm hp).symm
  have hn' : ∀ y ∈ p, 0 ≤ y.need := fun y hy => hn y (hp.subset hy)
  constructor
  · intro h x hx
    rw [hD]
    obtain ⟨q, r, e, h1, h2⟩ := split_due x.due hs
    have hxq : x ∈ q := by
      have := hp.symm.subset hx
      rw [e] at this
      rcases List.mem_append.1 this with h3 | h3
      · exact h3
      · have := h2 x h3; omega
    rcases list_cases q with rfl | ⟨a, z, rfl⟩
    · simp at hxq
    · have h3 := h a z r (by rw [e]; simp)
      have hz := h1 z (by simp)
      have e2 : dueN p x.due = sumF (·.need) a + z.need := by
        unfold dueN
        rw [e, sumF_append, sumF_append]
        rw [sumF_all (f := fun y : Jb => if y.due ≤ x.due then y.need else 0) (g := (·.need)) (l := a) fun y hy => if_pos (h1 y (by simp [hy]))]
        rw [sumF_zero (l := r) fun y hy => if_neg (by have := h2 y hy; omega)]
        simp only [sumF, if_pos hz]; omega
      omega
  · intro h a x b e
    have hx := h x (hp.subset (by rw [e]; simp))
    rw [hD] at hx
    have e2 : sumF (·.need) a + x.need ≤ dueN p x.due := by
      unfold dueN
      rw [e] at hs
      rw [List.pairwise_append] at hs
      rw [e, sumF_append]
      rw [sumF_all (f := fun y : Jb => if y.due ≤ x.due then y.need else 0) (g := (·.need)) (l := a) fun y hy => if_pos (hs.2.2 y hy x (by simp))]
      have h5 : 0 ≤ sumF (fun y : Jb => if y.due ≤ x.due then y.need else 0) b := sumF_nonneg fun y hy => by
        have := hn' y (by rw [e]; simp [hy]); split <;> omega
      simp only [sumF, Int.le_refl, if_true]; omega
    omega
end Go.Mine.Q
namespace Go.Mine.Q
/-! ### choices -/
def selM : List Jb → Nat → List Jb
  | [], _ => []
  | x :: l, m => if m % 2 = 1 then x :: selM l (m / 2) else selM l (m / 2)
def outM : List Jb → Nat → List Jb
  | [], _ => []
  | x :: l, m => if m % 2 = 1 then outM l (m / 2) else x :: outM l (m / 2)
theorem selM_sub : ∀ (l : List Jb) (m : Nat), (selM l m).Sublist l
  | [], _ => List.Sublist.refl _
  | x :: l, m => by
    unfold selM
    split
    · exact (selM_sub l _).cons_cons x
    · exact (selM_sub l _).cons x
theorem selM_out : ∀ (l : List Jb) (m : Nat), (selM l m).length + (outM l m).length = l.length
  | [], _ => rfl
  | x :: l, m => by
    have := selM_out l (m / 2)
    unfold selM outM
    split
    · simp only [List.length_cons]; omega
    · simp only [List.length_cons]; omega
theorem selM_zero : ∀ l : List Jb, selM l 0 = [] ∧ outM l 0 = l
  | [] => ⟨rfl, rfl⟩
  | x :: l => by
    obtain ⟨h1, h2⟩ := selM_zero l
    constructor
    · show (if 0 % 2 = 1 then _ else _) = _
      rw [if_neg (by decide)]; exact h1
    · show (if 0 % 2 = 1 then _ else _) = _
      rw [if_neg (by decide)]
      show x :: outM l 0 = _
      rw [h2]
/-- every choice of jobs has a number -/
theorem mask_of (p : Jb → Bool) : ∀ l : List Jb, ∃ m, m < 2 ^ l.length ∧ selM l m = l.filter p ∧ outM l m = l.filter fun x => !p x
  | [] => ⟨0, by simp, rfl, rfl⟩
  | x :: l => by
    obtain ⟨m, h1, h2, h3⟩ := mask_of p l
    have hlen : 2 ^ (x :: l).length = 2 * 2 ^ l.length := by rw [List.length_cons, Nat.pow_succ]; omega
    by_cases hp : p x = true
    · refine ⟨2 * m + 1, by omega, ?_, ?_⟩
      · unfold selM
        rw [if_pos (by omega), show (2 * m + 1) / 2 = m by omega, h2, List.filter_cons_of_pos hp]
      · unfold outM
        rw [if_pos (by omega), show (2 * m + 1) / 2 = m by omega, h3, List.filter_cons_of_neg (by simp [hp])]
    · refine ⟨2 * m, by omega, ?_, ?_⟩
      · unfold selM
        rw [if_neg (by omega), show 2 * m / 2 = m by omega, h2, List.filter_cons_of_neg hp]
      · unfold outM
        rw [if_neg (by omega), show 2 * m / 2 = m by omega, h3, List.filter_cons_of_pos (by simp [hp])]
/-- what lies in a choice, and out of it -/
theorem out_filter : ∀ {l : List Jb}, l.Pairwise (fun x y => x.no < y.no) → ∀ m : Nat, outM l m = l.filter fun x => !((selM l m).map (·.no)).contains x.no
  | [], _, m => rfl
  | x :: l, h, m => by
    rw [List.pairwise_cons] at h
    have ih := out_filter h.2 (m / 2)
    have hx : ∀ y ∈ l, y.no ≠ x.no := fun y hy => by have := h.1 y hy; omega
    unfold selM outM
    split
    · rw [List.filter_cons_of_neg (by simp), ih]
      refine List.filter_congr fun y hy => ?_
      simp [hx y hy]
    · have hxn : ((selM l (m / 2)).map (·.no)).contains x.no = false := by
        rw [← Bool.not_eq_true, List.contains_iff_mem]
        intro hc
        obtain ⟨y, hy, e⟩ := List.mem_map.1 hc
        exact hx y ((selM_sub l _).subset hy) e
      rw [List.filter_cons_of_pos (by rw [hxn]; rfl), ih]
/-! ### what is lost -/
def lostW (o : List Jb) : Int := sumF (fun x => if x.alt = true then 0 else 1) o
def lostA (o : List Jb) : Int := sumF (fun x => if x.alt = true then 1 else 0) o
theorem lost_nonneg (o : List Jb) : 0 ≤ lostW o ∧ 0 ≤ lostA o := ⟨sumF_nonneg fun _ _ => by split <;> omega, sumF_nonneg fun _ _ => by split <;> omega⟩
theorem lost_len : ∀ o : List Jb, lostW o + lostA o = o.length
  | [] => rfl
  | x :: o => by
    have := lost_len o
    unfold lostW lostA at *
    simp only [sumF, List.length_cons]
    split <;> omega
/-- what is lost where some numbers are kept -/
def lostN (l : List Jb) (keep : List Int) : Int × Int := (lostW (l.filter fun x => !keep.contains x.no), lostA (l.filter fun x => !keep.contains x.no))
theorem lostN_mask {l : List Jb} (h : l.Pairwise fun x y => x.no < y.no) (m : Nat) : lostN l ((selM l m).map (·.no)) = (lostW (outM l m), lostA (outM l m)) := by
  unfold lostN; rw [← out_filter h m]
/-! ### the better one -/
def lexL : List Int → List Int → Bool
  | [], [] => false
  | [], _ :: _ => true
  | _ :: _, [] => false
  | a :: s, b :: t => if a = b then lexL s t else decide (a < b)
theorem lexL_irr : ∀ a : List Int, lexL a a = false
  | [] => rfl
  | x :: a => by rw [lexL, if_pos rfl]; exact lexL_irr a
theorem lexL_trans : ∀ {a b c : List Int}, lexL a b = true → lexL b c = true → lexL a c = true
  | [], [], _, h, _ => by cases h
  | [], _ :: _, [], _, h => by cases h
  | [], _ :: _, _ :: _, _, _ => rfl
  | _ :: _, [], _, h, _ => by cases h
  | _ :: _, _ :: _, [], _, h => by cases h
  | x :: a, y :: b, z :: c, h1, h2 => by
    rw [lexL] at h1 h2 ⊢
    by_cases e1 : x = y
    · subst e1
      rw [if_pos rfl] at h1
      by_cases e2 : x = z
      · subst e2; rw [if_pos rfl] at h2 ⊢; exact lexL_trans h1 h2
      · rw [if_neg e2] at h2 ⊢; exact h2
    · rw [if_neg e1] at h1
      by_cases e2 : y = z
      · subst e2; rw [if_neg e1]; exact h1
      · rw [if_neg e2] at h2
        have g1 := of_decide_eq_true h1
        have g2 := of_decide_eq_true h2
        rw [if_neg (by omega)]
        exact decide_eq_true (by omega)
structure Ch where
  w : Int
  a : Int
  n : List Int
def chM (l : List Jb) (m : Nat) : Ch := ⟨lostW (outM l m), lostA (outM l m), (selM l m).map (·.no)⟩
def lessC (x y : Ch) : Bool := decide (x.w < y.w) || (decide (x.w = y.w) && (decide (x.a < y.a) || (decide (x.a = y.a) && lexL x.n y.n)))
theorem lessC_iff {x y : Ch} : lessC x y = true ↔ x.w < y.w ∨ (x.w = y.w ∧ (x.a < y.a ∨ (x.a = y.a ∧ lexL x.n y.n = true))) := by
  simp [lessC]
theorem lessC_irr (x : Ch) : lessC x x = false := by
  cases h : lessC x x
  · rfl
  · rcases lessC_iff.1 h with h | ⟨_, h | ⟨_, h⟩⟩
    · omega
    · omega
    · rw [lexL_irr] at h; cases h
theorem lessC_trans {x y z : Ch} (h1 : lessC x y = true) (h2 : lessC y z = true) : lessC x z = true := by
  rw [lessC_iff] at *
  rcases h1 with h1 | ⟨e1, h1⟩
  · rcases h2 with h2 | ⟨e2, _⟩
    · left; omega
    · left; omega
  · rcases h2 with h2 | ⟨e2, h2⟩
    · left; omega
    · right
      refine ⟨by omega, ?_⟩
      rcases h1 with h1 | ⟨f1, h1⟩
      · rcases h2 with h2 | ⟨f2, _⟩
        · left; omega
        · left; omega
      · rcases h2 with h2 | ⟨f2, h2⟩
        · left; omega
        · right; exact ⟨by omega, lexL_trans h1 h2⟩
/-! ### the best one -/
def feasM (l : List Jb) (m : Nat) : Bool := inTime (selM l m)
def stepM (l : List Jb) (b m : Nat) : Nat := if feasM l m = true ∧ lessC (chM l m) (chM l b) = true then m else b
/-- the best one of the first choices -/
def bestM (l : List Jb) : Nat → Nat
  | 0 => 0
  | k + 1 => stepM l (bestM l k) k
theorem feas_zero (l : List Jb) : feasM l 0 = true := by unfold feasM; rw [(selM_zero l).1]; rfl
theorem bestM_feas (l : List Jb) : ∀ k, feasM l (bestM l k) = true
  | 0 => feas_zero l
  | k + 1 => by
    unfold bestM stepM
    split
    · rename_i h; exact h.1
    · exact bestM_feas l k
theorem bestM_lt (l : List Jb) : ∀ k, bestM l k ≤ k
  | 0 => Nat.le_refl _
  | k + 1 => by
    have := bestM_lt l k
    unfold bestM stepM
    split <;> omega
theorem bestM_min (l : List Jb) : ∀ k m, m < k → feasM l m = true → lessC (chM l m) (chM l (bestM l k)) = false
  | 0, m, h, _ => by omega
  | k + 1, m, h, hf => by
    unfold bestM stepM
    by_cases e : m = k
    · subst e
      by_cases hc : lessC (chM l m) (chM l (bestM l m)) = true
      · rw [if_pos ⟨hf, hc⟩]; exact lessC_irr _
      · rw [if_neg (fun h => hc h.2)]; simpa using hc
    · have ih := bestM_min l k m (by omega) hf
      split
      · rename_i hc
        cases hx : lessC (chM l m) (chM l k)
        · rfl
        · rw [lessC_trans hx hc.2] at ih; cases ih
      · exact ih
theorem bestM_one (l : List Jb) : bestM l 1 = 0 := by
  unfold bestM stepM
  split <;> rfl
def shedM (l : List Jb) : Nat := bestM l (2 ^ l.length)
theorem shedM_lt (l : List Jb) : shedM l < 2 ^ l.length := by
  have h : 0 < 2 ^ l.length := Nat.pow_pos (by decide)
  have key : ∀ k, 0 < k → bestM l k < k := by
    intro k
    induction k with
    | zero => intro h; omega
    | succ k ih =>
      intro _
      unfold bestM stepM
      split
      · omega
      · rcases Nat.eq_zero_or_pos k with rfl | hk
        · show bestM l 0 < 1; exact Nat.lt_succ_self _
        · have := ih hk; omega
  exact key _ h
/-- no choice that can be kept is better -/
theorem shed_min {l : List Jb} (p : Jb → Bool) (hp : inTime (l.filter p) = true) :
    let b := chM l (shedM l); ¬ lessC ⟨lostW (l.filter fun x => !p x), lostA (l.filter fun x => !p x), (l.filter p).map (·.no)⟩ b = true := by
  obtain ⟨m, h1, h2, h3⟩ := mask_of p l
  have := bestM_min l (2 ^ l.length) m h1 (by unfold feasM; rw [h2]; exact hp)
  unfold chM at this
  rw [h2, h3] at this
  simp only [Bool.not_eq_true]
  exact this
theorem shed_in (l : List Jb) : inTime (selM l (shedM l)) = true := bestM_feas l _
end Go.Mine.Q
namespace Go.Mine.Q
/-! ### rows that stand by number -/
abbrev Inc (l : List Jb) : Prop := l.Pairwise fun x y => x.no < y.no
theorem inc_ext : ∀ {a b : List Jb}, Inc a → Inc b → (∀ x, x ∈ a ↔ x ∈ b) → a = b
  | [], [], _, _, _ => rfl
  | [], y :: b, _, _, h => by have := (h y).2 (by simp); simp at this
  | x :: a, [], _, _, h => by have := (h x).1 (by simp); simp at this
  | x :: a, y :: b, ha, hb, h => by
    have ha' := List.pairwise_cons.1 ha
    have hb' := List.pairwise_cons.1 hb
    have e : x = y := by
      rcases List.mem_cons.1 ((h x).1 (by simp)) with e | hx
      · exact e
      · rcases List.mem_cons.1 ((h y).2 (by simp)) with e | hy
        · exact e.symm
        · have h1 := hb'.1 x hx
          have h2 := ha'.1 y hy
          omega
    subst e
    rw [inc_ext ha'.2 hb'.2 fun z => ?_]
    constructor
    · intro hz
      rcases List.mem_cons.1 ((h z).1 (List.mem_cons_of_mem _ hz)) with e | h3
      · subst e; have := ha'.1 z hz; omega
      · exact h3
    · intro hz
      rcases List.mem_cons.1 ((h z).2 (List.mem_cons_of_mem _ hz)) with e | h3
      · subst e; have := hb'.1 z hz; omega
      · exact h3
theorem inc_sub {a b : List Jb} (h : a.Sublist b) (hb : Inc b) : Inc a := hb.sublist h
theorem inc_no {l : List Jb} (h : Inc l) {x y : Jb} (hx : x ∈ l) (hy : y ∈ l) (e : x.no = y.no) : x = y := by
  have h1 := jobOf_mem h hx
  rw [e, jobOf_mem h hy] at h1
  exact (Option.some.inj h1).symm
/-- a part of the jobs is what its numbers say -/
theorem sub_filter {l s : List Jb} (h : Inc l) (hs : s.Sublist l) : l.filter (fun x => (s.map (·.no)).contains x.no) = s := by
  refine inc_ext (inc_sub List.filter_sublist h) (inc_sub hs h) fun x => ?_
  rw [List.mem_filter]
  constructor
  · rintro ⟨hx, hc⟩
    rw [List.contains_iff_mem] at hc
    obtain ⟨y, hy, e⟩ := List.mem_map.1 hc
    rw [← inc_no h (hs.subset hy) hx e]; exact hy
  · intro hx
    exact ⟨hs.subset hx, by rw [List.contains_iff_mem]; exact List.mem_map.2 ⟨x, hx, rfl⟩⟩
/-! ### numbers that can be kept -/
def keptGo (l : List Jb) : Int → List Int → Option (List Jb)
  | _, [] => some []
  | last, n :: r => match jobOf l n with
    | none => none
    | some j => if n ≤ last then none else (keptGo l n r).map (j :: ·)
def fitsB (l : List Jb) (keep : List Int) : Bool := match keptGo l (-1) keep with
  | none => false
  | some m => inTime m
def fitsR (l : List Jb) (keep : List Int) : Bool × Int := if errH l = 0 then (fitsB l keep, 0) else (false, errH l)
theorem kept_some {l : List Jb} : ∀ {keep : List Int} {last : Int} {k : List Jb}, keptGo l last keep = some k → k.map (·.no) = keep ∧ (∀ x ∈ k, x ∈ l) ∧ Inc k ∧ ∀ x ∈ k, last < x.no
  | [], _, k, h => by
    rw [keptGo] at h
    obtain rfl := Option.some.inj h
    exact ⟨rfl, by simp, List.Pairwise.nil, by simp⟩
  | n :: r, last, k, h => by
    rw [keptGo] at h
    cases hj : jobOf l n with
    | none => rw [hj] at h; cases h
    | some j =>
      rw [hj] at h
      simp only at h
      by_cases hc : n ≤ last
      · rw [if_pos hc] at h; cases h
      · rw [if_neg hc] at h
        obtain ⟨k', hk', rfl⟩ := Option.map_eq_some_iff.1 h
        obtain ⟨h1, h2, h3, h4⟩ := kept_some hk'
        obtain ⟨j1, j2⟩ := jobOf_some hj
        refine ⟨by rw [List.map_cons, h1, j2], fun x hx => ?_, List.pairwise_cons.2 ⟨fun x hx => by have := h4 x hx; omega, h3⟩, fun x hx => ?_⟩
        · rcases List.mem_cons.1 hx with rfl | hx
          · exact j1
          · exact h2 x hx
        · rcases List.mem_cons.1 hx with rfl | hx
          · omega
          · have := h4 x hx; omega
theorem inc_sublist {l : List Jb} (h : Inc l) {k : List Jb} (hk : Inc k) (hm : ∀ x ∈ k, x ∈ l) : k.Sublist l := by
  have : l.filter (fun x => (k.map (·.no)).contains x.no) = k := by
    refine inc_ext (inc_sub List.filter_sublist h) hk fun x => ?_
    rw [List.mem_filter]
    constructor
    · rintro ⟨hx, hc⟩
      rw [List.contains_iff_mem] at hc
      obtain ⟨y, hy, e⟩ := List.mem_map.1 hc
      rw [← inc_no h (hm y hy) hx e]; exact hy
    · intro hx
      exact ⟨hm x hx, by rw [List.contains_iff_mem]; exact List.mem_map.2 ⟨x, hx, rfl⟩⟩
  rw [← this]; exact List.filter_sublist
theorem kept_sub {l : List Jb} (h : Inc l) {keep : List Int} {k : List Jb} (hk : keptGo l (-1) keep = some k) : k.Sublist l ∧ k.map (·.no) = keep := by
  obtain ⟨h1, h2, h3, _⟩ := kept_some hk
  exact ⟨inc_sublist h h3 h2, h1⟩
theorem kept_of {l : List Jb} (h : Inc l) : ∀ {s : List Jb} {last : Int}, Inc s → (∀ x ∈ s, x ∈ l) → (∀ x ∈ s, last < x.no) → keptGo l last (s.map (·.no)) = some s
  | [], _, _, _, _ => rfl
  | x :: s, last, hi0, hm, hl => by
    have hi := List.pairwise_cons.1 hi0
    rw [List.map_cons, keptGo, jobOf_mem h (hm x (by simp))]
    simp only
    rw [if_neg (by have := hl x (by simp); omega), kept_of h hi.2 (fun y hy => hm y (by simp [hy])) (fun y hy => hi.1 y hy)]
    rfl
/-- jobs that wait and are right -/
structure Wt (l : List Jb) : Prop where
  ok : okL l = true
  len : l.length ≤ 10
  wait : ∀ x ∈ l, x.ready = 0
theorem Wt.of {l : List Jb} (h : errH l = 0) : Wt l := by
  obtain ⟨h1, h2, h3⟩ := errH_zero h
  exact ⟨(chk_zero.1 h1).2, h2, h3⟩
theorem Wt.err {l : List Jb} (h : Wt l) : errH l = 0 := by
  have h1 : chk l = 0 := chk_zero.2 ⟨by have := h.len; omega, h.ok⟩
  have h2 : waits l = true := by
    unfold waits
    rw [List.all_eq_true]
    exact fun x hx => by rw [h.wait x hx]; rfl
  unfold errH
  rw [if_neg (by simp [h1]), if_neg (by have := h.len; omega), if_pos h2]
theorem Wt.inc {l : List Jb} (h : Wt l) : Inc l := (okL_iff.1 h.ok).2
theorem Wt.right {l : List Jb} (h : Wt l) : ∀ x ∈ l, rightJ x = true := (okL_iff.1 h.ok).1
theorem Wt.need {l : List Jb} (h : Wt l) : ∀ x ∈ l, 0 ≤ x.need := fun x hx => by have := rightJ_iff.1 (h.right x hx); omega
theorem Wt.sub {l m : List Jb} (h : Wt l) (hm : m.Sublist l) : Wt m := ⟨okL_sub h.ok hm, Nat.le_trans hm.length_le h.len, fun x hx => h.wait x (hm.subset hx)⟩
theorem Wt.chk {l : List Jb} (h : Wt l) : chk l = 0 := chk_zero.2 ⟨by have := h.len; omega, h.ok⟩
theorem Wt.runB {l : List Jb} (h : Wt l) : runB l = inTime l := by
  unfold Go.Mine.Q.runB
  rw [h.chk, runOk_wait h.ok h.wait]; rfl
theorem Wt.kept {l : List Jb} (h : Wt l) {s : List Jb} (hs : s.Sublist l) : keptGo l (-1) (s.map (·.no)) = some s :=
  kept_of h.inc (inc_sub hs h.inc) hs.subset fun x hx => by have := rightJ_iff.1 (h.right x (hs.subset hx)); omega
/-! ### what Shed keeps can be kept -/
def shedN (l : List Jb) : List Int := (selM l (shedM l)).map (·.no)
def shedW (l : List Jb) : Int := lostW (outM l (shedM l))
def shedA (l : List Jb) : Int := lostA (outM l (shedM l))
theorem shed_fits {l : List Jb} (h : Wt l) : fitsB l (shedN l) = true := by
  unfold fitsB shedN
  rw [h.kept (selM_sub _ _)]
  exact shed_in l
theorem shed_lost {l : List Jb} (h : Wt l) : lostN l (shedN l) = (shedW l, shedA l) := lostN_mask h.inc _
/-- not worse than a choice -/
def notWorse (w a : Int) (n : List Int) (v b : Int) (o : List Int) : Prop := w < v ∨ (v = w ∧ (a < b ∨ (b = a ∧ lexL o n = false)))
theorem not_less {w a v b : Int} {n o : List Int} (h : ¬ lessC ⟨v, b, o⟩ ⟨w, a, n⟩ = true) : notWorse w a n v b o := by
  rw [lessC_iff] at h
  unfold notWorse
  by_cases h1 : w < v
  · exact .inl h1
  · right
    have h2 : v = w := by
      rcases Int.lt_trichotomy v w with h3 | h3 | h3
      · exact absurd (.inl h3) h
      · exact h3
      · exact absurd h3 h1
    refine ⟨h2, ?_⟩
    by_cases h3 : a < b
    · exact .inl h3
    · right
      have h4 : b = a := by
        rcases Int.lt_trichotomy b a with h5 | h5 | h5
        · exact absurd (.inr ⟨h2, .inl h5⟩) h
        · exact h5
        · exact absurd h5 h3
      refine ⟨h4, ?_⟩
      cases hx : lexL o n
      · rfl
      · exact absurd (.inr ⟨h2, .inr ⟨h4, hx⟩⟩) h
theorem shed_least {l : List Jb} (h : Wt l) {other : List Int} (hf : fitsB l other = true) : notWorse (shedW l) (shedA l) (shedN l) (lostN l other).1 (lostN l other).2 other := by
  unfold fitsB at hf
  cases hk : keptGo l (-1) other with
  | none => rw [hk] at hf; cases hf
  | some k =>
    rw [hk] at hf
    obtain ⟨h1, h2⟩ := kept_sub h.inc hk
    have hp := sub_filter h.inc h1
    rw [h2] at hp
    have := shed_min (l := l) (fun x => other.contains x.no) (by rw [hp]; exact hf)
    rw [hp, h2] at this
    exact not_less this
/-! ### due later, or less needed -/
inductive Later : List Jb → List Jb → Prop where
  | nil : Later [] []
  | cons {x y : Jb} {l m : List Jb} (h1 : y.no = x.no) (h2 : y.alt = x.alt) (h3 : x.due ≤ y.due) (h4 : y.need ≤ x.need) (h5 : 0 ≤ x.need) (h : Later l m) : Later (x :: l) (y :: m)
theorem Later.sel {l m : List Jb} (h : Later l m) : ∀ k, Later (selM l k) (selM m k) := by
  induction h with
  | nil => exact fun _ => .nil
  | cons h1 h2 h3 h4 h5 _ ih =>
    intro k
    unfold selM
    split
    · exact .cons h1 h2 h3 h4 h5 (ih _)
    · exact ih _
theorem Later.out {l m : List Jb} (h : Later l m) : ∀ k, Later (outM l k) (outM m k) := by
  induction h with
  | nil => exact fun _ => .nil
  | cons h1 h2 h3 h4 h5 _ ih =>
    intro k
    unfold outM
    split
    · exact ih _
    · exact .cons h1 h2 h3 h4 h5 (ih _)
theorem Later.nos {l m : List Jb} (h : Later l m) : m.map (·.no) = l.map (·.no) := by
  induction h with
  | nil => rfl
  | cons h1 _ _ _ _ _ ih => rw [List.map_cons, List.map_cons, h1, ih]
theorem Later.lost {l m : List Jb} (h : Later l m) : lostW m = lostW l ∧ lostA m = lostA l := by
  induction h with
  | nil => exact ⟨rfl, rfl⟩
  | cons _ h2 _ _ _ _ ih =>
    unfold lostW lostA at *
    simp only [sumF, h2, ih.1, ih.2, and_self]
theorem Later.len {l m : List Jb} (h : Later l m) : m.length = l.length := by
  induction h with
  | nil => rfl
  | cons _ _ _ _ _ _ ih => simp [ih]
theorem Later.dueN {l m : List Jb} (h : Later l m) (D : Int) : dueN m D ≤ Go.Mine.Q.dueN l D := by
  induction h with
  | nil => exact Int.le_refl _
  | cons h1 h2 h3 h4 h5 _ ih =>
    unfold Go.Mine.Q.dueN at *
    simp only [sumF]
    split <;> split <;> omega
theorem Later.mem {l m : List Jb} (h : Later l m) : ∀ y ∈ m, ∃ x ∈ l, x.due ≤ y.due := by
  induction h with
  | nil => simp
  | cons h1 h2 h3 h4 h5 _ ih =>
    intro z hz
    rcases List.mem_cons.1 hz with rfl | hz
    · exact ⟨_, by simp, h3⟩
    · obtain ⟨x, hx, h6⟩ := ih z hz
      exact ⟨x, List.mem_cons_of_mem _ hx, h6⟩
theorem Later.inTime {l m : List Jb} (h : Later l m) (hi : inTime l = true) : Go.Mine.Q.inTime m = true := by
  rw [inTime_iff]
  intro y hy
  exact Int.le_trans (h.dueN y.due) (dueN_all hi (h.mem y hy))
theorem shed_later {l m : List Jb} (h : Later l m) : shedW m < shedW l ∨ (shedW m = shedW l ∧ shedA m ≤ shedA l) := by
  have h1 : feasM m (shedM l) = true := (h.sel _).inTime (shed_in l)
  have h2 : shedM l < 2 ^ m.length := by rw [h.len]; exact shedM_lt l
  have h3 := bestM_min m (2 ^ m.length) (shedM l) h2 h1
  have e : chM m (shedM l) = chM l (shedM l) := by
    unfold chM
    rw [(h.out _).lost.1, (h.out _).lost.2, (h.sel _).nos]
  rw [e] at h3
  have h4 := not_less (w := shedW m) (a := shedA m) (n := shedN m) (v := shedW l) (b := shedA l) (o := shedN l) (by rw [Bool.not_eq_true]; exact h3)
  unfold notWorse at h4
  omega
/-! ### all jobs -/
theorem shed_all {l : List Jb} : inTime l = true ↔ shedW l + shedA l = 0 := by
  unfold shedW shedA
  rw [lost_len]
  have hlen := selM_out l (shedM l)
  constructor
  · intro hi
    have hf : l.filter (fun _ => true) = l := List.filter_eq_self.2 fun _ _ => rfl
    have h1 := shed_min (l := l) (fun _ => true) (by rw [hf]; exact hi)
    have h2 := not_less h1
    have e : l.filter (fun x => !((fun _ : Jb => true) x)) = [] := List.filter_eq_nil_iff.2 fun _ _ => by simp
    rw [e] at h2
    have h3 := lost_nonneg (outM l (shedM l))
    have h4 := lost_len (outM l (shedM l))
    unfold notWorse at h2
    simp only [lostW, lostA, sumF] at h2 h3 h4
    omega
  · intro h
    have h1 : (selM l (shedM l)).length = l.length := by omega
    have h2 : selM l (shedM l) = l := (selM_sub l _).eq_of_length h1
    rw [← h2]; exact shed_in l
theorem shed_keep {l : List Jb} (h : inTime l = true) : (shedN l).length = l.length := by
  have h1 := shed_all.1 h
  unfold shedW shedA at h1
  rw [lost_len] at h1
  have h2 := selM_out l (shedM l)
  unfold shedN
  rw [List.length_map]; omega
/-! ### words alone -/
theorem lostW_words (o : List Jb) : lostW (o.filter fun x => !x.alt) = lostW o := by
  induction o with
  | nil => rfl
  | cons x o ih =>
    unfold lostW at *
    cases hx : x.alt
    · rw [List.filter_cons_of_pos (by simp [hx])]
      simp only [sumF, hx, ih]
    · rw [List.filter_cons_of_neg (by simp [hx])]
      simp only [sumF, hx, ih, if_true, Int.zero_add]
theorem filter_swap (p q : Jb → Bool) (l : List Jb) : (l.filter p).filter q = (l.filter q).filter p := by
  rw [List.filter_filter, List.filter_filter]
  exact List.filter_congr fun x _ => Bool.and_comm _ _
theorem shed_words {l : List Jb} (h : Wt l) : shedW (l.filter fun x => !x.alt) = shedW l ∧ shedA (l.filter fun x => !x.alt) = 0 := by
  have hsub : (l.filter fun x => !x.alt).Sublist l := List.filter_sublist
  have h' := h.sub hsub
  generalize hsm : (l.filter fun x => !x.alt) = sm at *
  constructor
  · -- the best choice of all, its words
    have a1 : shedW sm ≤ shedW l := by
      have hS := selM_sub l (shedM l)
      have hp := sub_filter h.inc hS
      have ho := out_filter h.inc (shedM l)
      have hin : inTime (sm.filter fun x => ((selM l (shedM l)).map (·.no)).contains x.no) = true := by
        refine inTime_sub (b := selM l (shedM l)) ?_ (fun y hy => h.need y (hS.subset hy)) (shed_in l)
        rw [← hsm, filter_swap, hp]
        exact List.filter_sublist
      have h1 := not_less (shed_min (l := sm) (fun x => ((selM l (shedM l)).map (·.no)).contains x.no) hin)
      have e : lostW (sm.filter fun x => !((selM l (shedM l)).map (·.no)).contains x.no) = shedW l := by
        rw [← hsm, filter_swap, lostW_words, ← ho]; rfl
      rw [e] at h1
      unfold notWorse at h1
      unfold shedW at *
      omega
    have a2 : shedW l ≤ shedW sm := by
      have hS := selM_sub sm (shedM sm)
      have hp := sub_filter h.inc (hS.trans hsub)
      have ho := out_filter h'.inc (shedM sm)
      have h1 := not_less (shed_min (l := l) (fun x => ((selM sm (shedM sm)).map (·.no)).contains x.no) (by rw [hp]; exact shed_in sm))
      have e : lostW (l.filter fun x => !((selM sm (shedM sm)).map (·.no)).contains x.no) = shedW sm := by
        unfold shedW
        rw [ho, ← hsm, filter_swap (fun x => !x.alt), lostW_words]
      rw [e] at h1
      unfold notWorse at h1
      unfold shedW at *
      omega
    omega
  · unfold shedA
    have ho := out_filter h'.inc (shedM sm)
    rw [ho]
    unfold lostA
    refine sumF_zero fun x hx => ?_
    have := (List.mem_filter.1 hx).1
    rw [← hsm] at this
    have := (List.mem_filter.1 this).2
    simp only [Bool.not_eq_true'] at this
    rw [this]; rfl
/-- one job -/
theorem fits_one {l : List Jb} (h : Wt l) {x : Jb} (hx : x ∈ l) : fitsB l [x.no] = decide (x.need ≤ x.due) := by
  unfold fitsB
  rw [show [x.no] = [x].map (·.no) from rfl, h.kept (List.singleton_sublist.2 hx)]
  simp only [inTime, List.all_cons, List.all_nil, Bool.and_true, dueN, sumF, Int.le_refl, if_true, Int.add_zero]
/-- a part of the jobs, in time or not -/
theorem acc_part {m : List Jb} (h : Wt m) : acc m (runS m) = (inTime m || m.isEmpty) := by
  have hb := h.runB
  unfold runS
  rw [hb]
  cases hi : inTime m
  · simp only [Bool.false_eq_true, if_false, Bool.false_or]
    cases m with
    | nil => cases hi
    | cons x m =>
      have := rightJ_iff.1 (h.right x (by simp))
      unfold acc
      simp only [accGo, Bool.true_and, List.all_cons, doneN, sumF, List.isEmpty_cons]
      have h0 : ¬ (0 : Int) = x.need := by omega
      simp [h0]
  · simp only [if_true, Bool.true_or]
    exact plan_acc h.ok (by rw [runOk_wait h.ok h.wait]; exact hi)
end Go.Mine.Q
