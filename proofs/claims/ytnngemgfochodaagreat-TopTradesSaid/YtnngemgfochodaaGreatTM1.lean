/-
  Layer 40 (budgets), plainly: purses, trades, what stands.
  Layer 40 (budgets), plainly: the reference's way comes to the same.
  Sorting, plainly: a list's sorted arrangement is one; what merging in place by halves comes to.
  Layer 40 (budgets), plainly: what trades keep.
  Layer 40 (budgets), plainly: nothing is lost; stages; later trades.
  Layers 40 and 41, plainly: paths, and a further trade.
  Layer 41 (deadlines), plainly.
  Merging in place by halves, plainly: where the binary search ends, the pieces may be turned about.
  The sort's own steps (arrays), plainly: what insertion and exchanges make of a row of trades.
  Exchanges of blocks, plainly: one round of each loop.
  Where the binary search of a merge in place ends.
  Blocks sorted and merged, plainly.
  Layer 44 (portions), plainly: what is given with a level; how a division has to be.
  What trades make of a stage, when they are made one after the other: each language has what it shall have.
  The trades that make the budgets of a stage the targets: no language has less; what stands with them; their numbers.
-/
import Derived.Sort.Defs
namespace Go.Mine.B
abbrev Q := Int × Int × Int × Int
def qg (q : Q) (s : Int) : Int := if s = 0 then q.1 else if s = 1 then q.2.1 else if s = 2 then q.2.2.1 else q.2.2.2
def qs (q : Q) (s v : Int) : Q := if s = 0 then (v, q.2) else if s = 1 then (q.1, v, q.2.2) else if s = 2 then (q.1, q.2.1, v, q.2.2.2) else (q.1, q.2.1, q.2.2.1, v)
theorem qg_qs_same (q : Q) (s v : Int) : qg (qs q s v) s = v := by
  unfold qg qs
  by_cases h0 : s = 0
  · simp [h0]
  · by_cases h1 : s = 1
    · simp [h1]
    · by_cases h2 : s = 2 <;> simp [h0, h1, h2]
def stage (s : Int) : Prop := 0 ≤ s ∧ s ≤ 3
theorem qg_qs_other (q : Q) {s r : Int} (v : Int) (hs : stage s) (hr : stage r) (h : r ≠ s) : qg (qs q s v) r = qg q r := by
  obtain ⟨s1, s2⟩ := hs
  obtain ⟨r1, r2⟩ := hr
  have c1 : s = 0 ∨ s = 1 ∨ s = 2 ∨ s = 3 := by omega
  have c2 : r = 0 ∨ r = 1 ∨ r = 2 ∨ r = 3 := by omega
  rcases c1 with rfl | rfl | rfl | rfl <;> rcases c2 with rfl | rfl | rfl | rfl <;> first | exact absurd rfl h | rfl
/-- a budget: language, milliseconds by stage -/
structure Bu where
  lang : Int
  q : Q
deriving DecidableEq
structure Tr where
  no : Int
  at_ : Int
  known : Int
  stg : Int
  fr : Int
  to : Int
  ms : Int
deriving DecidableEq, Inhabited
def inR (n lo hi : Int) : Bool := decide (lo ≤ n) && decide (n ≤ hi)
theorem inR_iff {n lo hi : Int} : inR n lo hi = true ↔ lo ≤ n ∧ n ≤ hi := by simp [inR]
def most : Int := 1073741824
def rightB (b : Bu) : Bool := inR b.lang 0 31 && (inR b.q.1 0 most && inR b.q.2.1 0 most && inR b.q.2.2.1 0 most && inR b.q.2.2.2 0 most)
def incB : List Bu → Bool
  | x :: y :: l => decide (x.lang < y.lang) && incB (y :: l)
  | _ => true
def incT : List Tr → Bool
  | x :: y :: l => decide (x.no < y.no) && incT (y :: l)
  | _ => true
def has (b : List Bu) (n : Int) : Bool := b.any fun x => decide (x.lang = n)
def rightT (b : List Bu) (x : Tr) : Bool :=
  inR x.no 0 1048576 && inR x.at_ 0 1099511627775 && inR x.known 0 1099511627775 && inR x.stg 0 3 && has b x.fr && has b x.to && !decide (x.fr = x.to) && inR x.ms 1 most
def chkB (b : List Bu) (l : List Tr) : Bool := b.all rightB && incB b && l.all (rightT b) && incT l
/-- ErrBudget: its number -/
def chk (err : Int) (b : List Bu) (l : List Tr) : Int := if 32 < b.length ∨ 4096 < l.length then 2 else if chkB b l = true then 0 else err
theorem incB_pair : ∀ {l : List Bu}, incB l = true ↔ l.Pairwise fun x y => x.lang < y.lang
  | [] => by simp [incB]
  | [x] => by simp [incB]
  | x :: y :: l => by
    unfold incB
    rw [Bool.and_eq_true, decide_eq_true_eq, incB_pair]
    constructor
    · rintro ⟨h1, h2⟩
      refine List.pairwise_cons.2 ⟨fun z hz => ?_, h2⟩
      rcases List.mem_cons.1 hz with rfl | hz
      · exact h1
      · have := (List.pairwise_cons.1 h2).1 z hz; omega
    · intro h
      obtain ⟨h1, h2⟩ := List.pairwise_cons.1 h
      exact ⟨h1 y (by simp), h2⟩
theorem incT_pair : ∀ {l : List Tr}, incT l = true ↔ l.Pairwise fun x y => x.no < y.no
  | [] => by simp [incT]
  | [x] => by simp [incT]
  | x :: y :: l => by
    unfold incT
    rw [Bool.and_eq_true, decide_eq_true_eq, incT_pair]
    constructor
    · rintro ⟨h1, h2⟩
      refine List.pairwise_cons.2 ⟨fun z hz => ?_, h2⟩
      rcases List.mem_cons.1 hz with rfl | hz
      · exact h1
      · have := (List.pairwise_cons.1 h2).1 z hz; omega
    · intro h
      obtain ⟨h1, h2⟩ := List.pairwise_cons.1 h
      exact ⟨h1 y (by simp), h2⟩
/-! ### purses -/
abbrev Pu := Int → Option Q
def upd (p : Pu) (n : Int) (q : Q) : Pu := fun j => if j = n then some q else p j
theorem upd_same (p : Pu) (n : Int) (q : Q) : upd p n q n = some q := by simp [upd]
theorem upd_other (p : Pu) {n j : Int} (q : Q) (h : j ≠ n) : upd p n q j = p j := by simp [upd, h]
def ofB (b : List Bu) : Pu := b.foldl (fun p x => upd p x.lang x.q) fun _ => none
def q0 : Q := (0, 0, 0, 0)
def perf (p : Pu) (x : Tr) : Pu :=
  let f := (p x.fr).getD q0
  let t := (p x.to).getD q0
  if qg f x.stg < x.ms ∨ most < qg t x.stg + x.ms then p else upd (upd p x.fr (qs f x.stg (qg f x.stg - x.ms))) x.to (qs t x.stg (qg t x.stg + x.ms))
theorem foldB_at : ∀ (b : List Bu) (p : Pu) (n : Int), (b.foldl (fun p x => upd p x.lang x.q) p n).isSome = ((p n).isSome || has b n)
  | [], p, n => by simp [has]
  | x :: b, p, n => by
    rw [List.foldl_cons, foldB_at b]
    unfold has
    rw [List.any_cons]
    by_cases h : n = x.lang
    · subst h; rw [upd_same]; simp
    · rw [upd_other _ _ h]
      have : ¬ x.lang = n := fun e => h e.symm
      simp [this]
theorem ofB_some (b : List Bu) (n : Int) : (ofB b n).isSome = has b n := by
  have := foldB_at b (fun _ => none) n
  simpa [ofB] using this
theorem foldB_keep : ∀ (b : List Bu) (p : Pu) (n : Int), (∀ y ∈ b, y.lang ≠ n) → b.foldl (fun p x => upd p x.lang x.q) p n = p n
  | [], _, _, _ => rfl
  | x :: b, p, n, h => by
    rw [List.foldl_cons, foldB_keep b _ n (fun y hy => h y (by simp [hy])), upd_other _ _ (fun e => h x (by simp) e.symm)]
theorem foldB_mem : ∀ {b : List Bu} (p : Pu), (b.Pairwise fun x y => x.lang < y.lang) → ∀ y ∈ b, b.foldl (fun p x => upd p x.lang x.q) p y.lang = some y.q
  | [], _, _, y, hy => by cases hy
  | x :: b, p, h, y, hy => by
    obtain ⟨h1, h2⟩ := List.pairwise_cons.1 h
    rw [List.foldl_cons]
    rcases List.mem_cons.1 hy with rfl | hy
    · rw [foldB_keep b _ _ (fun z hz => by have := h1 z hz; omega), upd_same]
    · exact foldB_mem _ h2 y hy
theorem ofB_mem {b : List Bu} (h : b.Pairwise fun x y => x.lang < y.lang) {y : Bu} (hy : y ∈ b) : ofB b y.lang = some y.q := foldB_mem _ h y hy
/-! ### what stands -/
/-- a trade into its place: behind those of its time -/
def ins : List Tr → Tr → List Tr
  | [], x => [x]
  | y :: l, x => if y.at_ ≤ x.at_ then y :: ins l x else x :: y :: l
def srt (l : List Tr) : List Tr := l.foldl ins []
def picks (l : List Tr) (at_ known : Int) : List Tr := l.filter fun x => !(decide (at_ < x.at_) || decide (known < x.known))
def fin (b : List Bu) (l : List Tr) (at_ known : Int) : Pu := (srt (picks l at_ known)).foldl perf (ofB b)
def viewB (b : List Bu) (p : Pu) : List Bu := b.map fun y => ⟨y.lang, (p y.lang).getD q0⟩
def standing (b : List Bu) (l : List Tr) (at_ known : Int) : List Bu := viewB b (fin b l at_ known)
/-- by time, then by number -/
def lt2 (x y : Tr) : Prop := x.at_ < y.at_ ∨ (x.at_ = y.at_ ∧ x.no < y.no)
theorem lt2_irr (a : Tr) : ¬ lt2 a a := by unfold lt2; omega
theorem lt2_trans (a b c : Tr) : lt2 a b → lt2 b c → lt2 a c := by unfold lt2; omega
theorem ins_perm : ∀ (l : List Tr) (x : Tr), (ins l x).Perm (x :: l)
  | [], _ => List.Perm.refl _
  | y :: l, x => by
    unfold ins
    split
    · exact ((ins_perm l x).cons y).trans (List.Perm.swap x y l)
    · exact List.Perm.refl _
theorem ins_sorted : ∀ {l : List Tr} {x : Tr}, l.Pairwise lt2 → (∀ y ∈ l, y.no < x.no) → (ins l x).Pairwise lt2
  | [], _, _, _ => by simp [ins]
  | y :: l, x, h, hx => by
    obtain ⟨h1, h2⟩ := List.pairwise_cons.1 h
    have hy := hx y (by simp)
    unfold ins
    split
    · rename_i hle
      refine List.pairwise_cons.2 ⟨fun z hz => ?_, ins_sorted h2 fun z hz => hx z (by simp [hz])⟩
      rcases List.mem_cons.1 ((ins_perm l x).mem_iff.1 hz) with rfl | hz
      · unfold lt2; omega
      · exact h1 z hz
    · rename_i hle
      refine List.pairwise_cons.2 ⟨fun z hz => ?_, h⟩
      rcases List.mem_cons.1 hz with rfl | hz
      · unfold lt2; omega
      · have := h1 z hz
        unfold lt2 at this ⊢; omega
theorem srtGo : ∀ (l acc : List Tr), (∀ x ∈ l, ∀ y ∈ acc, y.no < x.no) → (l.Pairwise fun x y => x.no < y.no) → acc.Pairwise lt2 → (l.foldl ins acc).Perm (acc ++ l) ∧ (l.foldl ins acc).Pairwise lt2
  | [], acc, _, _, h => ⟨by simp, h⟩
  | x :: l, acc, h1, h2, h3 => by
    obtain ⟨a1, a2⟩ := List.pairwise_cons.1 h2
    obtain ⟨p1, p2⟩ := srtGo l (ins acc x) (fun z hz y hy => by
      rcases List.mem_cons.1 ((ins_perm acc x).mem_iff.1 hy) with rfl | hy
      · exact a1 z hz
      · exact h1 z (by simp [hz]) y hy) a2 (ins_sorted h3 (h1 x (by simp)))
    refine ⟨p1.trans ?_, p2⟩
    refine ((ins_perm acc x).append_right l).trans ?_
    exact List.perm_middle.symm
theorem srt_is {l : List Tr} (h : l.Pairwise fun x y => x.no < y.no) : (srt l).Perm l ∧ (srt l).Pairwise lt2 := by
  have := srtGo l [] (by simp) h List.Pairwise.nil
  simpa [srt] using this
end Go.Mine.B
namespace Go.Mine.B
/-- the first budget of a language -/
def getQ (b : List Bu) (n : Int) : Q := ((b.find? fun y => decide (y.lang = n)).map Bu.q).getD q0
def perfL (b : List Bu) (x : Tr) : List Bu :=
  if qg (getQ b x.fr) x.stg < x.ms ∨ most < qg (getQ b x.to) x.stg + x.ms then b
  else b.map fun y => if y.lang = x.fr then ⟨y.lang, qs (getQ b x.fr) x.stg (qg (getQ b x.fr) x.stg - x.ms)⟩ else if y.lang = x.to then ⟨y.lang, qs (getQ b x.to) x.stg (qg (getQ b x.to) x.stg + x.ms)⟩ else y
def standR (b : List Bu) (l : List Tr) (at_ known : Int) : List Bu := (srt (picks l at_ known)).foldl perfL b
theorem getQ_view (b : List Bu) (p : Pu) (n : Int) (h : has b n = true) : getQ (viewB b p) n = (p n).getD q0 := by
  induction b with
  | nil => simp [has] at h
  | cons y b ih =>
    unfold getQ viewB
    rw [List.map_cons, List.find?_cons]
    by_cases hy : y.lang = n
    · simp [hy]
    · have : has b n = true := by simpa [has, hy] using h
      have h2 := ih this
      unfold getQ viewB at h2
      simpa [hy] using h2
theorem perfL_view {b : List Bu} {p : Pu} {x : Tr} (h1 : has b x.fr = true) (h2 : has b x.to = true) (hne : x.fr ≠ x.to) : perfL (viewB b p) x = viewB b (perf p x) := by
  unfold perfL
  rw [getQ_view b p _ h1, getQ_view b p _ h2]
  unfold perf
  simp only
  split
  · rfl
  · unfold viewB
    rw [List.map_map]
    refine List.map_congr_left fun y hy => ?_
    simp only [Function.comp]
    by_cases hf : y.lang = x.fr
    · rw [if_pos hf, hf, upd_other _ _ hne, upd_same]; rfl
    · rw [if_neg hf]
      by_cases ht : y.lang = x.to
      · rw [if_pos ht, ht, upd_same]; rfl
      · rw [if_neg ht, upd_other _ _ ht, upd_other _ _ hf]
theorem fold_view {b : List Bu} : ∀ (l : List Tr) (p : Pu), (∀ x ∈ l, has b x.fr = true ∧ has b x.to = true ∧ x.fr ≠ x.to) → l.foldl perfL (viewB b p) = viewB b (l.foldl perf p)
  | [], _, _ => rfl
  | x :: l, p, h => by
    obtain ⟨h1, h2, h3⟩ := h x (by simp)
    rw [List.foldl_cons, List.foldl_cons, perfL_view h1 h2 h3]
    exact fold_view l _ fun y hy => h y (by simp [hy])
theorem view_self {b : List Bu} (h : b.Pairwise fun x y => x.lang < y.lang) : viewB b (ofB b) = b := by
  unfold viewB
  conv => rhs; rw [← List.map_id b]
  refine List.map_congr_left fun y hy => ?_
  rw [ofB_mem h hy]
  rfl
theorem srt_mem (l : List Tr) : ∀ x ∈ srt l, x ∈ l := by
  have go : ∀ (l acc : List Tr), (l.foldl ins acc).Perm (acc ++ l) := by
    intro l
    induction l with
    | nil => intro acc; simp
    | cons x l ih =>
      intro acc
      refine (ih (ins acc x)).trans ?_
      exact ((ins_perm acc x).append_right l).trans List.perm_middle.symm
  intro x hx
  have := (go l []).mem_iff.1 hx
  simpa using this
theorem chkB_parts {b : List Bu} {l : List Tr} (h : chkB b l = true) : (∀ y ∈ b, rightB y = true) ∧ (b.Pairwise fun x y => x.lang < y.lang) ∧ (∀ x ∈ l, rightT b x = true) ∧ l.Pairwise fun x y => x.no < y.no := by
  simp only [chkB, Bool.and_eq_true, List.all_eq_true] at h
  exact ⟨h.1.1.1, incB_pair.1 h.1.1.2, h.1.2, incT_pair.1 h.2⟩
theorem rightT_parts {b : List Bu} {x : Tr} (h : rightT b x = true) : has b x.fr = true ∧ has b x.to = true ∧ x.fr ≠ x.to ∧ stage x.stg ∧ 1 ≤ x.ms ∧ x.ms ≤ most := by
  simp only [rightT, Bool.and_eq_true, inR_iff, Bool.not_eq_true', decide_eq_false_iff_not] at h
  obtain ⟨⟨⟨⟨⟨h1, h2⟩, h3⟩, h4⟩, h5⟩, h6⟩ := h
  exact ⟨h3, h4, h5, h2, h6⟩
/-- the reference's way comes to the same -/
theorem standR_is {b : List Bu} {l : List Tr} (h : chkB b l = true) (at_ known : Int) : standR b l at_ known = standing b l at_ known := by
  obtain ⟨h1, h2, h3, h4⟩ := chkB_parts h
  unfold standR standing fin
  conv => lhs; rw [← view_self h2]
  refine fold_view _ _ fun x hx => ?_
  have := rightT_parts (h3 x (List.mem_filter.1 (srt_mem _ x hx)).1)
  exact ⟨this.1, this.2.1, this.2.2.1⟩
end Go.Mine.B
namespace Go.Mine.B
section
variable {α : Type}
/-- a strict order that is total on what is given -/
structure Ord (lt : α → α → Prop) : Prop where
  irr : ∀ a, ¬ lt a a
  trans : ∀ a b c, lt a b → lt b c → lt a c
/-- sorted arrangements of the same things are one -/
theorem sorted_one {lt : α → α → Prop} (h : Ord lt) : ∀ {a b : List α}, a.Perm b → a.Pairwise lt → b.Pairwise lt → a = b
  | [], b, hp, _, _ => (List.nil_perm.1 hp).symm
  | x :: a, [], hp, _, _ => by have := hp.length_eq; simp at this
  | x :: a, y :: b, hp, ha, hb => by
    obtain ⟨a1, a2⟩ := List.pairwise_cons.1 ha
    obtain ⟨b1, b2⟩ := List.pairwise_cons.1 hb
    have hx : x ∈ y :: b := hp.mem_iff.1 (by simp)
    have hy : y ∈ x :: a := hp.mem_iff.2 (by simp)
    have e : x = y := by
      rcases List.mem_cons.1 hx with e | hx
      · exact e
      · rcases List.mem_cons.1 hy with e | hy
        · exact e.symm
        · exact absurd (h.trans _ _ _ (a1 y hy) (b1 x hx)) (h.irr _)
    subst e
    rw [sorted_one h (List.Perm.cons_inv hp) a2 b2]
end
/-- sorted pieces, each below what comes after -/
theorem sorted_pieces {α : Type} {lt : α → α → Prop} (_h : Ord lt) {L1 L2 R1 R2 A B : List α} (hL : (L1 ++ L2).Pairwise lt) (hR : (R1 ++ R2).Pairwise lt) (h1 : ∀ x ∈ L1, ∀ y ∈ R2, lt x y) (h2 : ∀ y ∈ R1, ∀ x ∈ L2, lt y x)
    (hA : A.Perm (L1 ++ R1)) (hB : B.Perm (L2 ++ R2)) (sA : A.Pairwise lt) (sB : B.Pairwise lt) : (A ++ B).Perm (L1 ++ L2 ++ (R1 ++ R2)) ∧ (A ++ B).Pairwise lt := by
  constructor
  · refine (hA.append hB).trans ?_
    rw [List.append_assoc, List.append_assoc]
    refine List.Perm.append_left L1 ?_
    rw [← List.append_assoc, ← List.append_assoc]
    exact List.Perm.append_right R2 List.perm_append_comm
  · obtain ⟨_, _, l3⟩ := List.pairwise_append.1 hL
    obtain ⟨_, _, r3⟩ := List.pairwise_append.1 hR
    refine List.pairwise_append.2 ⟨sA, sB, fun x hx y hy => ?_⟩
    rcases List.mem_append.1 (hA.mem_iff.1 hx) with hx | hx
    · rcases List.mem_append.1 (hB.mem_iff.1 hy) with hy | hy
      · exact l3 x hx y hy
      · exact h1 x hx y hy
    · rcases List.mem_append.1 (hB.mem_iff.1 hy) with hy | hy
      · exact h2 x hx y hy
      · exact r3 x hx y hy
end Go.Mine.B
namespace Go.Mine.B
theorem lt2_ord : Ord lt2 := ⟨lt2_irr, lt2_trans⟩
/-- any arrangement by time and number is the one -/
theorem srt_one {l s : List Tr} (h : l.Pairwise fun x y => x.no < y.no) (hp : s.Perm l) (hs : s.Pairwise lt2) : srt l = s := by
  obtain ⟨p, q⟩ := srt_is h
  exact sorted_one lt2_ord (p.trans hp.symm) q hs
theorem srt_filter {l : List Tr} (h : l.Pairwise fun x y => x.no < y.no) (p : Tr → Bool) : srt (l.filter p) = (srt l).filter p := by
  obtain ⟨a, b⟩ := srt_is h
  exact srt_one (h.sublist List.filter_sublist) (a.filter p) (b.sublist List.filter_sublist)
/-- those of an early time come first -/
theorem srt_split {l : List Tr} (h : l.Pairwise fun x y => x.no < y.no) (t : Int) : srt l = srt (l.filter fun x => decide (x.at_ ≤ t)) ++ srt (l.filter fun x => !decide (x.at_ ≤ t)) := by
  obtain ⟨a1, a2⟩ := srt_is (h.sublist (List.filter_sublist (p := fun x => decide (x.at_ ≤ t))))
  obtain ⟨b1, b2⟩ := srt_is (h.sublist (List.filter_sublist (p := fun x => !decide (x.at_ ≤ t))))
  refine srt_one h ((a1.append b1).trans (List.filter_append_perm _ l)) (List.pairwise_append.2 ⟨a2, b2, fun x hx y hy => ?_⟩)
  have hx := (List.mem_filter.1 (a1.mem_iff.1 hx)).2
  have hy := (List.mem_filter.1 (b1.mem_iff.1 hy)).2
  simp at hx hy
  unfold lt2; omega
/-! ### what a trade keeps -/
def okQ (q : Q) : Prop := (0 ≤ q.1 ∧ q.1 ≤ most) ∧ (0 ≤ q.2.1 ∧ q.2.1 ≤ most) ∧ (0 ≤ q.2.2.1 ∧ q.2.2.1 ≤ most) ∧ (0 ≤ q.2.2.2 ∧ q.2.2.2 ≤ most)
theorem okQ_get {q : Q} (h : okQ q) (s : Int) : 0 ≤ qg q s ∧ qg q s ≤ most := by
  obtain ⟨h1, h2, h3, h4⟩ := h
  unfold qg
  split
  · exact h1
  · split
    · exact h2
    · split
      · exact h3
      · exact h4
theorem okQ_set {q : Q} (h : okQ q) (s v : Int) (hv : 0 ≤ v ∧ v ≤ most) : okQ (qs q s v) := by
  obtain ⟨h1, h2, h3, h4⟩ := h
  unfold qs
  split
  · exact ⟨hv, h2, h3, h4⟩
  · split
    · exact ⟨h1, hv, h3, h4⟩
    · split
      · exact ⟨h1, h2, hv, h4⟩
      · exact ⟨h1, h2, h3, hv⟩
theorem okQ_zero : okQ q0 := by unfold okQ q0 most; decide
def okP (p : Pu) : Prop := ∀ n q, p n = some q → okQ q
theorem okP_get {p : Pu} (h : okP p) (n : Int) : okQ ((p n).getD q0) := by
  rcases hp : p n with _ | q
  · exact okQ_zero
  · exact h n q hp
theorem okP_perf {p : Pu} (h : okP p) {x : Tr} (hm : 1 ≤ x.ms) : okP (perf p x) := by
  unfold perf
  simp only
  split
  · exact h
  · rename_i hc
    have f := okP_get h x.fr
    have t := okP_get h x.to
    have f1 := okQ_get f x.stg
    have t1 := okQ_get t x.stg
    intro n q hq
    unfold upd at hq
    split at hq
    · cases hq
      exact okQ_set t _ _ ⟨by omega, by omega⟩
    · split at hq
      · cases hq
        exact okQ_set f _ _ ⟨by omega, by omega⟩
      · exact h n q hq
theorem okP_fold : ∀ (l : List Tr) {p : Pu}, okP p → (∀ x ∈ l, 1 ≤ x.ms) → okP (l.foldl perf p)
  | [], _, h, _ => h
  | x :: l, p, h, hl => by
    rw [List.foldl_cons]
    exact okP_fold l (okP_perf h (hl x (by simp))) fun y hy => hl y (by simp [hy])
theorem rightB_ok {b : Bu} (h : rightB b = true) : okQ b.q ∧ 0 ≤ b.lang ∧ b.lang ≤ 31 := by
  simp only [rightB, Bool.and_eq_true, inR_iff] at h
  exact ⟨⟨h.2.1.1.1, h.2.1.1.2, h.2.1.2, h.2.2⟩, h.1⟩
theorem ok_right {n : Int} {q : Q} (h : okQ q) (hn : 0 ≤ n ∧ n ≤ 31) : rightB ⟨n, q⟩ = true := by
  obtain ⟨h1, h2, h3, h4⟩ := h
  simp only [rightB, Bool.and_eq_true, inR_iff]
  exact ⟨hn, ⟨⟨h1, h2⟩, h3⟩, h4⟩
theorem okP_of {b : List Bu} (hb : ∀ y ∈ b, rightB y = true) : okP (ofB b) := by
  have go : ∀ (b : List Bu) (p : Pu), okP p → (∀ y ∈ b, rightB y = true) → okP (b.foldl (fun p x => upd p x.lang x.q) p) := by
    intro b
    induction b with
    | nil => intro p h _; exact h
    | cons y b ih =>
      intro p h hb
      refine ih _ ?_ fun z hz => hb z (by simp [hz])
      intro n q hq
      have hq : upd p y.lang y.q n = some q := hq
      by_cases hn : n = y.lang
      · subst hn; rw [upd_same] at hq; cases hq; exact (rightB_ok (hb y (by simp))).1
      · rw [upd_other _ _ hn] at hq; exact h n q hq
  exact go b _ (fun n q h => by cases h) hb
/-- a language that a trade does not name -/
theorem perf_other (p : Pu) {x : Tr} {n : Int} (h1 : n ≠ x.fr) (h2 : n ≠ x.to) : perf p x n = p n := by
  unfold perf
  by_cases hc : qg ((p x.fr).getD q0) x.stg < x.ms ∨ most < qg ((p x.to).getD q0) x.stg + x.ms
  · exact congrFun (if_pos hc) n
  · refine (congrFun (if_neg hc) n).trans ?_
    rw [upd_other _ _ h2, upd_other _ _ h1]
theorem fold_other : ∀ (l : List Tr) (p : Pu) (n : Int), (∀ x ∈ l, n ≠ x.fr ∧ n ≠ x.to) → l.foldl perf p n = p n
  | [], _, _, _ => rfl
  | x :: l, p, n, h => by
    obtain ⟨h1, h2⟩ := h x (by simp)
    rw [List.foldl_cons, fold_other l _ n (fun y hy => h y (by simp [hy])), perf_other p h1 h2]
def valP (p : Pu) (n s : Int) : Int := qg ((p n).getD q0) s
/-- what a trade makes of a language's stage -/
theorem perf_val (p : Pu) {x : Tr} (hne : x.fr ≠ x.to) (n s : Int) (hx : stage x.stg) (hs : stage s) :
    valP (perf p x) n s = if valP p x.fr x.stg < x.ms ∨ most < valP p x.to x.stg + x.ms ∨ s ≠ x.stg then valP p n s else if n = x.fr then valP p n s - x.ms else if n = x.to then valP p n s + x.ms else valP p n s := by
  unfold perf valP
  simp only
  by_cases hc : qg ((p x.fr).getD q0) x.stg < x.ms ∨ most < qg ((p x.to).getD q0) x.stg + x.ms
  · rw [if_pos hc, if_pos (by rcases hc with h | h; exact .inl h; exact .inr (.inl h))]
  · rw [if_neg hc]
    by_cases hst : s = x.stg
    · subst hst
      rw [if_neg (by rintro (h | h | h); exact hc (.inl h); exact hc (.inr h); exact h rfl)]
      by_cases ht : n = x.to
      · subst ht
        rw [upd_same, if_neg (fun e => hne e.symm), if_pos rfl]
        exact qg_qs_same _ _ _
      · rw [upd_other _ _ ht]
        by_cases hf : n = x.fr
        · subst hf
          rw [upd_same, if_pos rfl]
          exact qg_qs_same _ _ _
        · rw [upd_other _ _ hf, if_neg hf, if_neg ht]
    · rw [if_pos (.inr (.inr hst))]
      by_cases ht : n = x.to
      · subst ht
        rw [upd_same]
        exact qg_qs_other _ _ hx hs hst
      · rw [upd_other _ _ ht]
        by_cases hf : n = x.fr
        · subst hf
          rw [upd_same]
          exact qg_qs_other _ _ hx hs hst
        · rw [upd_other _ _ hf]
end Go.Mine.B
namespace Go.Mine.B
theorem has_view (b : List Bu) (p : Pu) (n : Int) : has (viewB b p) n = has b n := by
  unfold has viewB
  rw [List.any_map]
  rfl
theorem view_len (b : List Bu) (p : Pu) : (viewB b p).length = b.length := by unfold viewB; exact List.length_map ..
theorem rightT_view (b : List Bu) (p : Pu) (x : Tr) : rightT (viewB b p) x = rightT b x := by
  unfold rightT
  rw [has_view, has_view]
theorem pair_view {b : List Bu} (p : Pu) (h : b.Pairwise fun x y => x.lang < y.lang) : (viewB b p).Pairwise fun x y => x.lang < y.lang := by
  unfold viewB
  rw [List.pairwise_map]
  exact h
/-- budgets that stand are right -/
theorem chkB_view {b : List Bu} {l m : List Tr} {p : Pu} (h : chkB b l = true) (hm : m.Sublist l) (hp : okP p) : chkB (viewB b p) m = true := by
  obtain ⟨h1, h2, h3, h4⟩ := chkB_parts h
  unfold chkB
  rw [Bool.and_eq_true, Bool.and_eq_true, Bool.and_eq_true, List.all_eq_true, List.all_eq_true, incB_pair, incT_pair]
  refine ⟨⟨⟨fun y hy => ?_, pair_view p h2⟩, fun x hx => ?_⟩, h4.sublist hm⟩
  · obtain ⟨z, hz, rfl⟩ := List.mem_map.1 hy
    exact ok_right (okP_get hp _) (rightB_ok (h1 z hz)).2
  · rw [rightT_view]; exact h3 x (hm.subset hx)
theorem chkB_sub {b : List Bu} {l m : List Tr} (h : chkB b l = true) (hm : m.Sublist l) : chkB b m = true := by
  obtain ⟨h1, h2, h3, h4⟩ := chkB_parts h
  unfold chkB
  rw [Bool.and_eq_true, Bool.and_eq_true, Bool.and_eq_true, List.all_eq_true, List.all_eq_true, incB_pair, incT_pair]
  exact ⟨⟨⟨h1, h2⟩, fun x hx => h3 x (hm.subset hx)⟩, h4.sublist hm⟩
theorem okP_fin {b : List Bu} {l : List Tr} (h : chkB b l = true) (at_ known : Int) : okP (fin b l at_ known) := by
  obtain ⟨h1, h2, h3, h4⟩ := chkB_parts h
  exact okP_fold _ (okP_of h1) fun x hx => (rightT_parts (h3 x (List.mem_filter.1 (srt_mem _ x hx)).1)).2.2.2.2.1
/-! ### sums -/
def sumP (b : List Bu) (p : Pu) (s : Int) : Int := (b.map fun y => valP p y.lang s).sum
theorem sum_add (b : List Bu) (f g h k : Bu → Int) (e : ∀ y ∈ b, f y = g y + h y - k y) : (b.map f).sum = (b.map g).sum + (b.map h).sum - (b.map k).sum := by
  induction b with
  | nil => rfl
  | cons y b ih =>
    have := ih fun z hz => e z (by simp [hz])
    have h1 := e y (by simp)
    simp only [List.map_cons, List.sum_cons]
    omega
theorem sum_none {b : List Bu} {n v : Int} (h : ∀ y ∈ b, y.lang ≠ n) : (b.map fun y => if y.lang = n then v else 0).sum = 0 := by
  induction b with
  | nil => rfl
  | cons y b ih =>
    simp only [List.map_cons, List.sum_cons]
    rw [if_neg (h y (by simp)), ih fun z hz => h z (by simp [hz])]
    rfl
theorem sum_one {b : List Bu} {n v : Int} (hb : b.Pairwise fun x y => x.lang < y.lang) (h : has b n = true) : (b.map fun y => if y.lang = n then v else 0).sum = v := by
  induction b with
  | nil => simp [has] at h
  | cons y b ih =>
    obtain ⟨h1, h2⟩ := List.pairwise_cons.1 hb
    simp only [List.map_cons, List.sum_cons]
    by_cases hy : y.lang = n
    · rw [if_pos hy, sum_none fun z hz => by have := h1 z hz; omega]; omega
    · rw [if_neg hy, ih h2 (by simpa [has, hy] using h)]; omega
theorem sum_perf {b : List Bu} (hb : b.Pairwise fun x y => x.lang < y.lang) (p : Pu) {x : Tr} (h1 : has b x.fr = true) (h2 : has b x.to = true) (hne : x.fr ≠ x.to) (hx : stage x.stg) {s : Int} (hs : stage s) : sumP b (perf p x) s = sumP b p s := by
  unfold sumP
  by_cases hc : valP p x.fr x.stg < x.ms ∨ most < valP p x.to x.stg + x.ms ∨ s ≠ x.stg
  · refine congrArg List.sum (List.map_congr_left fun y _ => ?_)
    rw [perf_val p hne y.lang s hx hs, if_pos hc]
  · rw [sum_add b _ (fun y => valP p y.lang s) (fun y => if y.lang = x.to then x.ms else 0) (fun y => if y.lang = x.fr then x.ms else 0), sum_one hb h1, sum_one hb h2]
    · omega
    · intro y _
      rw [perf_val p hne y.lang s hx hs, if_neg hc]
      by_cases hf : y.lang = x.fr
      · have : y.lang ≠ x.to := fun e => hne (hf.symm.trans e)
        simp only [hf, if_true]
        rw [if_neg hne]; omega
      · by_cases ht : y.lang = x.to
        · simp only [ht, if_true]
          rw [if_neg (fun e => hne e.symm)]; omega
        · simp only [if_neg hf, if_neg ht]; omega
theorem sum_fold {b : List Bu} (hb : b.Pairwise fun x y => x.lang < y.lang) {s : Int} (hs : stage s) : ∀ (l : List Tr) (p : Pu), (∀ x ∈ l, rightT b x = true) → sumP b (l.foldl perf p) s = sumP b p s
  | [], _, _ => rfl
  | x :: l, p, h => by
    obtain ⟨h1, h2, h3, h4, _⟩ := rightT_parts (h x (by simp))
    rw [List.foldl_cons, sum_fold hb hs l _ fun y hy => h y (by simp [hy])]
    exact sum_perf hb p h1 h2 h3 h4 hs
theorem fin_sum {b : List Bu} {l : List Tr} (h : chkB b l = true) (at_ known : Int) {s : Int} (hs : stage s) : ((standing b l at_ known).map fun y => qg y.q s).sum = (b.map fun y => qg y.q s).sum := by
  obtain ⟨h1, h2, h3, h4⟩ := chkB_parts h
  have e := sum_fold h2 hs (srt (picks l at_ known)) (ofB b) fun x hx => h3 x (List.mem_filter.1 (srt_mem _ x hx)).1
  unfold sumP at e
  unfold standing viewB
  rw [List.map_map]
  refine (show _ = _ from e).trans (congrArg List.sum (List.map_congr_left fun y hy => ?_))
  unfold valP
  rw [ofB_mem h2 hy]; rfl
/-- a language that no trade names -/
theorem fin_other {b : List Bu} {l : List Tr} (h : chkB b l = true) (at_ known : Int) {y : Bu} (hy : y ∈ b) (hn : ∀ x ∈ l, y.lang ≠ x.fr ∧ y.lang ≠ x.to) : fin b l at_ known y.lang = some y.q := by
  obtain ⟨h1, h2, h3, h4⟩ := chkB_parts h
  unfold fin
  exact (fold_other (srt (picks l at_ known)) (ofB b) y.lang fun x hx => hn x (List.mem_filter.1 (srt_mem _ x hx)).1).trans (ofB_mem h2 hy)
/-! ### stages -/
theorem stage_fold {s : Int} (hs : stage s) : ∀ (l : List Tr) (p r : Pu), (∀ x ∈ l, x.fr ≠ x.to ∧ stage x.stg) → (∀ n, valP p n s = valP r n s) → ∀ n, valP (l.foldl perf p) n s = valP ((l.filter fun x => decide (x.stg = s)).foldl perf r) n s
  | [], _, _, _, h => h
  | x :: l, p, r, hl, h => by
    obtain ⟨hne, hx⟩ := hl x (by simp)
    intro n
    by_cases hst : x.stg = s
    · rw [List.filter_cons_of_pos (by simpa using hst), List.foldl_cons, List.foldl_cons]
      refine stage_fold hs l _ _ (fun y hy => hl y (by simp [hy])) (fun m => ?_) n
      rw [perf_val p hne m s hx hs, perf_val r hne m s hx hs, hst, h x.fr, h x.to, h m]
    · rw [List.filter_cons_of_neg (by simpa using hst), List.foldl_cons]
      refine stage_fold hs l _ _ (fun y hy => hl y (by simp [hy])) (fun m => ?_) n
      rw [perf_val p hne m s hx hs, if_pos (.inr (.inr fun e => hst e.symm)), h m]
theorem pair_picks {l : List Tr} (h : l.Pairwise fun x y => x.no < y.no) (at_ known : Int) : (picks l at_ known).Pairwise fun x y => x.no < y.no := h.sublist List.filter_sublist
theorem fin_stage {b : List Bu} {l : List Tr} (h : chkB b l = true) (at_ known : Int) {s : Int} (hs : stage s) (n : Int) : valP (fin b l at_ known) n s = valP (fin b (l.filter fun x => decide (x.stg = s)) at_ known) n s := by
  obtain ⟨h1, h2, h3, h4⟩ := chkB_parts h
  unfold fin
  have e : picks (l.filter fun x => decide (x.stg = s)) at_ known = (picks l at_ known).filter fun x => decide (x.stg = s) := by
    unfold picks
    rw [List.filter_filter, List.filter_filter]
    exact List.filter_congr fun x _ => Bool.and_comm _ _
  rw [e, srt_filter (pair_picks h4 at_ known)]
  exact stage_fold hs _ _ _ (fun x hx => by
    have := rightT_parts (h3 x (List.mem_filter.1 (srt_mem _ x hx)).1)
    exact ⟨this.2.2.1, this.2.2.2.1⟩) (fun _ => rfl) n
/-! ### later trades -/
theorem picks_stand (l : List Tr) (at_ known : Int) : picks (l.filter fun x => decide (x.at_ ≤ at_) && decide (x.known ≤ known)) at_ known = picks l at_ known := by
  unfold picks
  rw [List.filter_filter]
  refine List.filter_congr fun x _ => ?_
  rw [Bool.eq_iff_iff]
  simp
theorem ofB_view {b : List Bu} (p : Pu) (h : b.Pairwise fun x y => x.lang < y.lang) {y : Bu} (hy : y ∈ b) : ofB (viewB b p) y.lang = some ((p y.lang).getD q0) := by
  have := ofB_mem (pair_view p h) (y := ⟨y.lang, (p y.lang).getD q0⟩) (by unfold viewB; exact List.mem_map.2 ⟨y, hy, rfl⟩)
  exact this
theorem perf_at (p : Pu) (x : Tr) (n : Int) : perf p x n = if qg ((p x.fr).getD q0) x.stg < x.ms ∨ most < qg ((p x.to).getD q0) x.stg + x.ms then p n else upd (upd p x.fr (qs ((p x.fr).getD q0) x.stg (qg ((p x.fr).getD q0) x.stg - x.ms))) x.to (qs ((p x.to).getD q0) x.stg (qg ((p x.to).getD q0) x.stg + x.ms)) n := by
  by_cases hc : qg ((p x.fr).getD q0) x.stg < x.ms ∨ most < qg ((p x.to).getD q0) x.stg + x.ms
  · rw [if_pos hc]; exact congrFun (if_pos hc) n
  · rw [if_neg hc]; exact congrFun (if_neg hc) n
/-- trades see of a purse what it has of their languages -/
theorem perf_congr {b : List Bu} {p r : Pu} {x : Tr} (hx : rightT b x = true) (h : ∀ n, has b n = true → p n = r n) : ∀ n, has b n = true → perf p x n = perf r x n := by
  obtain ⟨h1, h2, -⟩ := rightT_parts hx
  intro n hn
  rw [perf_at, perf_at, h _ h1, h _ h2]
  by_cases hc : qg ((r x.fr).getD q0) x.stg < x.ms ∨ most < qg ((r x.to).getD q0) x.stg + x.ms
  · rw [if_pos hc, if_pos hc]; exact h n hn
  · rw [if_neg hc, if_neg hc]
    by_cases ht : n = x.to
    · subst ht; rw [upd_same, upd_same]
    · rw [upd_other _ _ ht, upd_other _ _ ht]
      by_cases hf : n = x.fr
      · subst hf; rw [upd_same, upd_same]
      · rw [upd_other _ _ hf, upd_other _ _ hf]; exact h n hn
theorem fold_congr {b : List Bu} : ∀ (l : List Tr) (p r : Pu), (∀ x ∈ l, rightT b x = true) → (∀ n, has b n = true → p n = r n) → ∀ n, has b n = true → l.foldl perf p n = l.foldl perf r n
  | [], _, _, _, h => h
  | x :: l, p, r, hl, h => fold_congr l _ _ (fun y hy => hl y (by simp [hy])) (perf_congr (hl x (by simp)) h)
theorem perf_some {p : Pu} {x : Tr} {n : Int} (h : (p n).isSome = true) : (perf p x n).isSome = true := by
  rw [perf_at]
  split
  · exact h
  · unfold upd
    split
    · rfl
    · split
      · rfl
      · exact h
theorem fold_some : ∀ (l : List Tr) {p : Pu} {n : Int}, (p n).isSome = true → (l.foldl perf p n).isSome = true
  | [], _, _, h => h
  | x :: l, p, n, h => by rw [List.foldl_cons]; exact fold_some l (perf_some h)
theorem view_view {b : List Bu} (p r : Pu) (h : ∀ n, has b n = true → p n = r n) : viewB b p = viewB b r := by
  unfold viewB
  refine List.map_congr_left fun y hy => ?_
  rw [h y.lang (by unfold has; exact List.any_eq_true.2 ⟨y, hy, by simp⟩)]
theorem viewB_viewB (b : List Bu) (p r : Pu) : viewB (viewB b p) r = viewB b r := by
  unfold viewB
  rw [List.map_map]; rfl
/-- one time after another -/
theorem then_is {b : List Bu} {l : List Tr} (h : chkB b l = true) {early at_ : Int} (known : Int) (he : early ≤ at_) : standing (standing b l early known) (l.filter fun x => decide (early < x.at_)) at_ known = standing b l at_ known := by
  obtain ⟨h1, h2, h3, h4⟩ := chkB_parts h
  unfold standing
  rw [viewB_viewB]
  refine view_view _ _ fun n hn => ?_
  have e1 : picks (l.filter fun x => decide (early < x.at_)) at_ known = (picks l at_ known).filter fun x => !decide (x.at_ ≤ early) := by
    unfold picks
    rw [List.filter_filter, List.filter_filter]
    refine List.filter_congr fun x _ => ?_
    rw [Bool.eq_iff_iff]
    simp
    omega
  have e2 : picks l early known = (picks l at_ known).filter fun x => decide (x.at_ ≤ early) := by
    unfold picks
    rw [List.filter_filter]
    refine List.filter_congr fun x _ => ?_
    rw [Bool.eq_iff_iff]
    simp
    omega
  have e3 := srt_split (pair_picks h4 at_ known) early
  conv => rhs; unfold fin
  rw [e3, List.foldl_append, ← e1, ← e2]
  conv => lhs; unfold fin
  refine fold_congr (b := b) _ _ _ (fun x hx => ?_) (fun m hm => ?_) n hn
  · exact h3 x (List.mem_filter.1 (List.mem_filter.1 (srt_mem _ x hx)).1).1
  · obtain ⟨y, hy, hm⟩ := List.any_eq_true.1 (show b.any (fun x => decide (x.lang = m)) = true from hm)
    have hm := of_decide_eq_true hm
    subst hm
    rw [ofB_view _ h2 hy]
    have : ((srt (picks l early known)).foldl perf (ofB b) y.lang).isSome = true := fold_some _ (by rw [ofB_some]; unfold has; exact List.any_eq_true.2 ⟨y, hy, by simp⟩)
    rcases hq : (srt (picks l early known)).foldl perf (ofB b) y.lang with _ | q
    · rw [hq] at this; cases this
    · rfl
end Go.Mine.B
namespace Go.Mine.B
/-- what there is up to a stage -/
def path (q : Q) (s : Int) : Int := if s = 0 then q.1 else if s = 1 then q.1 + q.2.1 else if s = 2 then q.1 + q.2.1 + q.2.2.1 else q.1 + q.2.1 + q.2.2.1 + q.2.2.2
theorem path_ok {q : Q} (h : okQ q) (s : Int) : 0 ≤ path q s ∧ path q s ≤ 4294967296 := by
  obtain ⟨h1, h2, h3, h4⟩ := h
  unfold most at h1 h2 h3 h4
  unfold path
  split
  · omega
  · split
    · omega
    · split <;> omega
theorem path_mono {q : Q} (h : okQ q) {s r : Int} (hs : stage s) (hr : stage r) (hle : s ≤ r) : path q s ≤ path q r := by
  obtain ⟨h1, h2, h3, h4⟩ := h
  obtain ⟨s1, s2⟩ := hs
  obtain ⟨r1, r2⟩ := hr
  have c1 : s = 0 ∨ s = 1 ∨ s = 2 ∨ s = 3 := by omega
  have c2 : r = 0 ∨ r = 1 ∨ r = 2 ∨ r = 3 := by omega
  rcases c1 with rfl | rfl | rfl | rfl <;> rcases c2 with rfl | rfl | rfl | rfl <;> simp [path] <;> omega
/-- the next stage adds its own -/
theorem path_next (q : Q) {s : Int} (hs : stage s) : path q s = (if s = 0 then 0 else path q (s - 1)) + qg q s := by
  obtain ⟨s1, s2⟩ := hs
  have c1 : s = 0 ∨ s = 1 ∨ s = 2 ∨ s = 3 := by omega
  rcases c1 with rfl | rfl | rfl | rfl <;> simp [path, qg]
theorem path_is (q : Q) (s : Int) : path q s = qg q 0 + (if s = 0 then 0 else qg q 1) + (if s = 0 ∨ s = 1 then 0 else qg q 2) + (if s = 0 ∨ s = 1 ∨ s = 2 then 0 else qg q 3) := by
  unfold path
  by_cases h0 : s = 0
  · simp [h0, qg]
  · by_cases h1 : s = 1
    · simp [h1, qg]
    · by_cases h2 : s = 2
      · simp [h2, qg]
      · simp [h0, h1, h2, qg]
/-- a stage of it put otherwise -/
theorem path_set (q : Q) {s r : Int} (v : Int) (hs : stage s) (hr : stage r) : path (qs q s v) r = if s ≤ r then path q r - qg q s + v else path q r := by
  obtain ⟨s1, s2⟩ := hs
  obtain ⟨r1, r2⟩ := hr
  have c1 : s = 0 ∨ s = 1 ∨ s = 2 ∨ s = 3 := by omega
  have c2 : r = 0 ∨ r = 1 ∨ r = 2 ∨ r = 3 := by omega
  rcases c1 with rfl | rfl | rfl | rfl <;> rcases c2 with rfl | rfl | rfl | rfl <;> simp [path, qg, qs] <;> omega
def pathP (p : Pu) (n s : Int) : Int := path ((p n).getD q0) s
/-- what a trade makes of a path -/
theorem perf_path (p : Pu) {x : Tr} (hne : x.fr ≠ x.to) (n s : Int) (hx : stage x.stg) (hs : stage s) :
    pathP (perf p x) n s = if valP p x.fr x.stg < x.ms ∨ most < valP p x.to x.stg + x.ms ∨ s < x.stg then pathP p n s else if n = x.fr then pathP p n s - x.ms else if n = x.to then pathP p n s + x.ms else pathP p n s := by
  unfold pathP valP
  rw [perf_at]
  by_cases hc : qg ((p x.fr).getD q0) x.stg < x.ms ∨ most < qg ((p x.to).getD q0) x.stg + x.ms
  · rw [if_pos hc, if_pos (by rcases hc with h | h; exact .inl h; exact .inr (.inl h))]
  · rw [if_neg hc]
    by_cases ht : n = x.to
    · subst ht
      rw [upd_same, Option.getD_some, path_set _ _ hx hs]
      by_cases hst : s < x.stg
      · rw [if_neg (show ¬ x.stg ≤ s by omega), if_pos (.inr (.inr hst))]
      · rw [if_pos (show x.stg ≤ s by omega), if_neg (by rintro (h | h | h); exact hc (.inl h); exact hc (.inr h); exact hst h), if_neg (fun e => hne e.symm), if_pos rfl]; omega
    · rw [upd_other _ _ ht]
      by_cases hf : n = x.fr
      · subst hf
        rw [upd_same, Option.getD_some, path_set _ _ hx hs]
        by_cases hst : s < x.stg
        · rw [if_neg (show ¬ x.stg ≤ s by omega), if_pos (.inr (.inr hst))]
        · rw [if_pos (show x.stg ≤ s by omega), if_neg (by rintro (h | h | h); exact hc (.inl h); exact hc (.inr h); exact hst h), if_pos rfl]; omega
      · rw [upd_other _ _ hf, if_neg hf, if_neg ht, ite_self]
/-- one trade alone -/
theorem fin_single (b : List Bu) (x : Tr) : fin b [x] x.at_ x.known = perf (ofB b) x := by
  unfold fin picks
  rw [List.filter_cons_of_pos (by simp)]
  rfl
/-- a further trade that comes last -/
theorem ins_last : ∀ (l : List Tr) (x : Tr), (∀ y ∈ l, y.at_ ≤ x.at_) → ins l x = l ++ [x]
  | [], _, _ => rfl
  | y :: l, x, h => by
    unfold ins
    rw [if_pos (h y (by simp)), ins_last l x fun z hz => h z (by simp [hz])]
    rfl
theorem fin_more (b : List Bu) {l : List Tr} {x : Tr} {at_ known : Int} (h1 : x.at_ ≤ at_) (h2 : x.known ≤ known) (h : ∀ y ∈ l, y.at_ ≤ x.at_) : fin b (l ++ [x]) at_ known = perf (fin b l at_ known) x := by
  unfold fin
  have e : picks (l ++ [x]) at_ known = picks l at_ known ++ [x] := by
    unfold picks
    rw [List.filter_append, List.filter_cons_of_pos (by simp; omega)]
    rfl
  have e2 : srt (picks l at_ known ++ [x]) = srt (picks l at_ known) ++ [x] := by
    unfold srt
    rw [List.foldl_append]
    refine ins_last _ _ fun y hy => h y ?_
    have := srt_mem (picks l at_ known) y hy
    exact (List.mem_filter.1 this).1
  rw [e, e2, List.foldl_append]
  rfl
/-- the paths of all languages together -/
theorem sum_lin (b : List Bu) (f g h k w : Bu → Int) (e : ∀ y, f y = g y + h y + k y + w y) : (b.map f).sum = (b.map g).sum + (b.map h).sum + (b.map k).sum + (b.map w).sum := by
  induction b with
  | nil => rfl
  | cons y b ih =>
    have h1 := e y
    simp only [List.map_cons, List.sum_cons]
    omega
theorem sum_if (b : List Bu) (c : Prop) [Decidable c] (f : Bu → Int) : (b.map fun y => if c then 0 else f y).sum = if c then 0 else (b.map f).sum := by
  by_cases hc : c
  · simp only [if_pos hc]
    induction b with
    | nil => rfl
    | cons y b ih => simp only [List.map_cons, List.sum_cons, ih]; rfl
  · simp only [if_neg hc]
theorem path_sum {b : List Bu} {l : List Tr} (h : chkB b l = true) (at_ known s : Int) : ((standing b l at_ known).map fun y => path y.q s).sum = (b.map fun y => path y.q s).sum := by
  have go : ∀ b : List Bu, (b.map fun y => path y.q s).sum = (b.map fun y => qg y.q 0).sum + (if s = 0 then 0 else (b.map fun y => qg y.q 1).sum) + (if s = 0 ∨ s = 1 then 0 else (b.map fun y => qg y.q 2).sum) + (if s = 0 ∨ s = 1 ∨ s = 2 then 0 else (b.map fun y => qg y.q 3).sum) := by
    intro b
    rw [← sum_if b (s = 0) fun y => qg y.q 1, ← sum_if b (s = 0 ∨ s = 1) fun y => qg y.q 2, ← sum_if b (s = 0 ∨ s = 1 ∨ s = 2) fun y => qg y.q 3]
    exact sum_lin b _ _ _ _ _ fun y => path_is y.q s
  rw [go, go, fin_sum h at_ known (s := 0) ⟨by omega, by omega⟩, fin_sum h at_ known (s := 1) ⟨by omega, by omega⟩, fin_sum h at_ known (s := 2) ⟨by omega, by omega⟩, fin_sum h at_ known (s := 3) ⟨by omega, by omega⟩]
/-- trades that do not stand do not matter -/
theorem standing_stand (b : List Bu) (l : List Tr) (at_ known : Int) : standing b (l.filter fun x => decide (x.at_ ≤ at_) && decide (x.known ≤ known)) at_ known = standing b l at_ known := by
  unfold standing fin
  rw [picks_stand]
end Go.Mine.B
namespace Go.Mine.B
def tq (q : Q) (u : Int) : Q := (u + path q 0, u + path q 1, u + path q 2, u + path q 3)
theorem qg_tq (q : Q) (u : Int) {s : Int} (hs : stage s) : qg (tq q u) s = u + path q s := by
  obtain ⟨s1, s2⟩ := hs
  have c1 : s = 0 ∨ s = 1 ∨ s = 2 ∨ s = 3 := by omega
  rcases c1 with rfl | rfl | rfl | rfl <;> rfl
def timeB (t : Int) : Bool := inR t 0 1099511627775
theorem timeB_iff {t : Int} : timeB t = true ↔ 0 ≤ t ∧ t < 1099511627776 := by unfold timeB; rw [inR_iff]; omega
/-- what stands of a language -/
def stq (b : List Bu) (l : List Tr) (n u k : Int) : Q := (fin b l u k n).getD q0
def dueV (err arg : Int) (b : List Bu) (l : List Tr) (n u k : Int) : Q × Int :=
  if chk err b l ≠ 0 then (q0, chk err b l) else if (timeB u && timeB k && has b n) = true then (tq (stq b l n u k) u, 0) else (q0, arg)
def leftV (err arg : Int) (b : List Bu) (l : List Tr) (n u k s t : Int) : Int × Int :=
  if (dueV err arg b l n u k).2 ≠ 0 then (0, (dueV err arg b l n u k).2) else if (inR s 0 3 && timeB t) = true then (qg (dueV err arg b l n u k).1 s - t, 0) else (0, arg)
theorem chk_ok {err : Int} {b : List Bu} {l : List Tr} (h : chkB b l = true) (hb : b.length ≤ 32) (hl : l.length ≤ 40) : chk err b l = 0 := by
  unfold chk
  rw [if_neg (by omega), if_pos h]
theorem chk_zero {err : Int} (he : err ≠ 0) {b : List Bu} {l : List Tr} : chk err b l = 0 ↔ chkB b l = true ∧ b.length ≤ 32 ∧ l.length ≤ 4096 := by
  unfold chk
  constructor
  · intro h
    by_cases h1 : 32 < b.length ∨ 4096 < l.length
    · rw [if_pos h1] at h; omega
    · rw [if_neg h1] at h
      by_cases h2 : chkB b l = true
      · exact ⟨h2, by omega, by omega⟩
      · rw [if_neg h2] at h; exact absurd h he
  · rintro ⟨h, h1, h2⟩
    rw [if_neg (by omega), if_pos h]
theorem dueV_ok {err arg : Int} {b : List Bu} {l : List Tr} (h : chkB b l = true) (hb : b.length ≤ 32) (hl : l.length ≤ 40) (n u k : Int) : dueV err arg b l n u k = if (timeB u && timeB k && has b n) = true then (tq (stq b l n u k) u, 0) else (q0, arg) := by
  unfold dueV
  rw [chk_ok h hb hl, if_neg (by simp)]
/-- what is for later, or known later -/
theorem due_later {err arg : Int} {b : List Bu} {l : List Tr} (h : chkB b l = true) (hb : b.length ≤ 32) (hl : l.length ≤ 40) (n u k : Int) : dueV err arg b (l.filter fun x => decide (x.at_ ≤ u) && decide (x.known ≤ k)) n u k = dueV err arg b l n u k := by
  rw [dueV_ok h hb hl, dueV_ok (chkB_sub h List.filter_sublist) hb (Nat.le_trans (List.length_filter_le _ _) hl)]
  unfold stq fin
  rw [picks_stand]
theorem okQ_stq {b : List Bu} {l : List Tr} (h : chkB b l = true) (n u k : Int) : okQ (stq b l n u k) := okP_get (okP_fin h u k) n
/-- a further trade that comes last -/
theorem due_more {b : List Bu} {l : List Tr} {x : Tr} {u k : Int} (h : chkB b (l ++ [x]) = true) (h1 : x.at_ ≤ u) (h2 : x.known ≤ k) (hl : ∀ y ∈ l, y.at_ ≤ x.at_) (n : Int) {s : Int} (hs : stage s) :
    path (stq b (l ++ [x]) n u k) s = if qg (stq b l x.fr u k) x.stg < x.ms ∨ most < qg (stq b l x.to u k) x.stg + x.ms ∨ s < x.stg then path (stq b l n u k) s else if n = x.fr then path (stq b l n u k) s - x.ms else if n = x.to then path (stq b l n u k) s + x.ms else path (stq b l n u k) s := by
  obtain ⟨_, _, r, _⟩ := chkB_parts h
  obtain ⟨_, _, hne, hx, _, _⟩ := rightT_parts (r x (by simp))
  unfold stq
  rw [fin_more b h1 h2 hl]
  exact perf_path _ hne n s hx hs
/-- without trades -/
theorem stq_nil {b : List Bu} (hb : b.Pairwise fun x y => x.lang < y.lang) {y : Bu} (hy : y ∈ b) (u k : Int) : stq b [] y.lang u k = y.q := by
  unfold stq fin
  show ((ofB b) y.lang).getD q0 = y.q
  rw [ofB_mem hb hy]; rfl
end Go.Mine.B
namespace Go.Mine.B
/-- every number of the first row is below every one of the second -/
def NoLt (L R : List Tr) : Prop := ∀ x ∈ L, ∀ y ∈ R, x.no < y.no
theorem lt_of_le {x y : Tr} (hn : x.no < y.no) (h : x.at_ ≤ y.at_) : lt2 x y := by unfold lt2; omega
theorem lt_of_lt {x y : Tr} (h : y.at_ < x.at_) : lt2 y x := by unfold lt2; omega
theorem le_of_lt2 {x y : Tr} (h : lt2 x y) : x.at_ ≤ y.at_ := by unfold lt2 at h; omega
/-- in a sorted row all are at most the last -/
theorem le_last {L : List Tr} (h : L.Pairwise lt2) {u : Tr} (hu : L.getLast? = some u) : ∀ x ∈ L, x.at_ ≤ u.at_ := by
  intro x hx
  obtain ⟨L', rfl⟩ := List.getLast?_eq_some_iff.1 hu
  rcases List.mem_append.1 hx with hx | hx
  · exact le_of_lt2 ((List.pairwise_append.1 h).2.2 x hx u (by simp))
  · rw [List.mem_singleton.1 hx]; exact Int.le_refl _
theorem head_le {R : List Tr} (h : R.Pairwise lt2) {v : Tr} (hv : R.head? = some v) : ∀ y ∈ R, v.at_ ≤ y.at_ := by
  intro y hy
  rcases R with _ | ⟨z, R⟩
  · cases hy
  · cases hv
    rcases List.mem_cons.1 hy with rfl | hy
    · exact Int.le_refl _
    · exact le_of_lt2 ((List.pairwise_cons.1 h).1 y hy)
/-- the first piece of the first row is below the second piece of the second -/
theorem low_high {L1 R2 : List Tr} (hL : L1.Pairwise lt2) (hR : R2.Pairwise lt2) (hn : NoLt L1 R2) (hc : ∀ u v, L1.getLast? = some u → R2.head? = some v → u.at_ ≤ v.at_) : ∀ x ∈ L1, ∀ y ∈ R2, lt2 x y := by
  intro x hx y hy
  rcases hu : L1.getLast? with _ | u
  · rw [List.getLast?_eq_none_iff.1 hu] at hx; cases hx
  · rcases hv : R2.head? with _ | v
    · rw [List.head?_eq_none_iff.1 hv] at hy; cases hy
    · have a := le_last hL hu x hx
      have b := head_le hR hv y hy
      have c := hc u v hu hv
      exact lt_of_le (hn x hx y hy) (by omega)
/-- the first piece of the second row is below the second piece of the first -/
theorem high_low {R1 L2 : List Tr} (hR : R1.Pairwise lt2) (hL : L2.Pairwise lt2) (hc : ∀ u v, R1.getLast? = some u → L2.head? = some v → u.at_ < v.at_) : ∀ y ∈ R1, ∀ x ∈ L2, lt2 y x := by
  intro y hy x hx
  rcases hu : R1.getLast? with _ | u
  · rw [List.getLast?_eq_none_iff.1 hu] at hy; cases hy
  · rcases hv : L2.head? with _ | v
    · rw [List.head?_eq_none_iff.1 hv] at hx; cases hx
    · have a := le_last hR hu y hy
      have b := head_le hL hv x hx
      have c := hc u v hu hv
      exact lt_of_lt (by omega)
/-- one element into the second row -/
theorem put_low {x : Tr} {R1 R2 : List Tr} (hR : (R1 ++ R2).Pairwise lt2) (hn : NoLt [x] (R1 ++ R2)) (h1 : ∀ u, R1.getLast? = some u → u.at_ < x.at_) (h2 : ∀ v, R2.head? = some v → x.at_ ≤ v.at_) : (R1 ++ x :: R2).Pairwise lt2 := by
  obtain ⟨r1, r2, r3⟩ := List.pairwise_append.1 hR
  have hx : ∀ y ∈ R2, lt2 x y := by
    have := low_high (L1 := [x]) (by simp) r2 (fun a ha b hb => hn a ha b (by simp [hb])) (fun u v hu hv => by cases hu; exact h2 v hv)
    exact this x (by simp)
  have hy : ∀ y ∈ R1, lt2 y x := by
    have := high_low (L2 := [x]) r1 (by simp) (fun u v hu hv => by cases hv; exact h1 u hu)
    exact fun y hy => this y hy x (by simp)
  refine List.pairwise_append.2 ⟨r1, List.pairwise_cons.2 ⟨hx, r2⟩, fun y hy' z hz => ?_⟩
  rcases List.mem_cons.1 hz with rfl | hz
  · exact hy y hy'
  · exact r3 y hy' z hz
/-- one element into the first row -/
theorem put_high {y : Tr} {L1 L2 : List Tr} (hL : (L1 ++ L2).Pairwise lt2) (hn : NoLt (L1 ++ L2) [y]) (h1 : ∀ u, L1.getLast? = some u → u.at_ ≤ y.at_) (h2 : ∀ v, L2.head? = some v → y.at_ < v.at_) : (L1 ++ y :: L2).Pairwise lt2 := by
  obtain ⟨l1, l2, l3⟩ := List.pairwise_append.1 hL
  have hx : ∀ x ∈ L2, lt2 y x := by
    have := high_low (R1 := [y]) (by simp) l2 (fun u v hu hv => by cases hu; exact h2 v hv)
    exact this y (by simp)
  have hy : ∀ x ∈ L1, lt2 x y := by
    have := low_high (R2 := [y]) l1 (by simp) (fun a ha b hb => hn a (by simp [ha]) b hb) (fun u v hu hv => by cases hv; exact h1 u hu)
    exact fun x hx => this x hx y (by simp)
  refine List.pairwise_append.2 ⟨l1, List.pairwise_cons.2 ⟨hx, l2⟩, fun x hx' z hz => ?_⟩
  rcases List.mem_cons.1 hz with rfl | hz
  · exact hy x hx'
  · exact l3 x hx' z hz
/-- what a merge leaves of two rows -/
def Mrg (L R M : List Tr) : Prop := M.Perm (L ++ R) ∧ M.Pairwise lt2
theorem mrg_low {x : Tr} {R1 R2 : List Tr} (hR : (R1 ++ R2).Pairwise lt2) (hn : NoLt [x] (R1 ++ R2)) (h1 : ∀ u, R1.getLast? = some u → u.at_ < x.at_) (h2 : ∀ v, R2.head? = some v → x.at_ ≤ v.at_) : Mrg [x] (R1 ++ R2) (R1 ++ x :: R2) :=
  ⟨List.perm_middle, put_low hR hn h1 h2⟩
theorem mrg_high {y : Tr} {L1 L2 : List Tr} (hL : (L1 ++ L2).Pairwise lt2) (hn : NoLt (L1 ++ L2) [y]) (h1 : ∀ u, L1.getLast? = some u → u.at_ ≤ y.at_) (h2 : ∀ v, L2.head? = some v → y.at_ < v.at_) : Mrg (L1 ++ L2) [y] (L1 ++ y :: L2) :=
  ⟨List.perm_middle.trans (List.perm_append_comm (l₁ := [y]) (l₂ := L1 ++ L2)), put_high hL hn h1 h2⟩
theorem mrg_nilL {R : List Tr} (h : R.Pairwise lt2) : Mrg [] R R := ⟨List.Perm.refl _, h⟩
theorem mrg_nilR {L : List Tr} (h : L.Pairwise lt2) : Mrg L [] L := ⟨by simp, h⟩
/-- the pieces turned about and merged -/
theorem mrg_sym {L1 L2 R1 R2 A B : List Tr} (hL : (L1 ++ L2).Pairwise lt2) (hR : (R1 ++ R2).Pairwise lt2) (hn : NoLt (L1 ++ L2) (R1 ++ R2)) (hc1 : ∀ u v, L1.getLast? = some u → R2.head? = some v → u.at_ ≤ v.at_) (hc2 : ∀ u v, R1.getLast? = some u → L2.head? = some v → u.at_ < v.at_) (hA : Mrg L1 R1 A) (hB : Mrg L2 R2 B) : Mrg (L1 ++ L2) (R1 ++ R2) (A ++ B) := by
  obtain ⟨l1, l2, l3⟩ := List.pairwise_append.1 hL
  obtain ⟨r1, r2, r3⟩ := List.pairwise_append.1 hR
  exact sorted_pieces lt2_ord hL hR (low_high l1 r2 (fun a ha b hb => hn a (by simp [ha]) b (by simp [hb])) hc1) (high_low r1 l2 hc2) hA.1 hB.1 hA.2 hB.2
/-! ### places in a row of pieces -/
theorem at_last (P L : List Tr) (S : List Tr) {u : Tr} (hu : L.getLast? = some u) : (P ++ L ++ S)[P.length + L.length - 1]? = some u := by
  obtain ⟨L', rfl⟩ := List.getLast?_eq_some_iff.1 hu
  rw [List.getElem?_append_left (by simp), List.getElem?_append_right (by simp)]
  rw [List.getElem?_append_right (by simp)]
  simp
theorem at_head (P R : List Tr) {v : Tr} (hv : R.head? = some v) : (P ++ R)[P.length]? = some v := by
  rcases R with _ | ⟨z, R⟩
  · cases hv
  · cases hv; simp
/-- two elements change places -/
theorem swap_at (A M B : List Tr) (x y : Tr) : ((A ++ x :: M ++ y :: B).set A.length y).set (A.length + M.length + 1) x = A ++ y :: M ++ x :: B := by
  rw [List.append_assoc, List.set_append_right _ _ (Nat.le_refl _)]
  simp only [Nat.sub_self, List.cons_append, List.set_cons_zero]
  rw [List.set_append_right _ _ (by omega), show A.length + M.length + 1 - A.length = M.length + 1 by omega]
  simp
end Go.Mine.B
namespace Go.Mine.B
open Go.Sort
theorem get_arr {d : Array Tr} {A B : List Tr} {x : Tr} {i : Nat} (h : d.toList = A ++ x :: B) (hi : i = A.length) : d[i]! = x := by
  subst hi
  rw [← Array.getElem!_toList, h, List.getElem!_eq_getElem?_getD, List.getElem?_append_right (Nat.le_refl _)]
  simp
theorem swp_up {d : Array Tr} {A M B : List Tr} {x y : Tr} {i j : Nat} (h : d.toList = A ++ x :: M ++ y :: B) (hi : i = A.length) (hj : j = A.length + M.length + 1) : (swp d i j).toList = A ++ y :: M ++ x :: B := by
  have e1 : d[i]! = x := get_arr (A := A) (B := M ++ y :: B) (by rw [h]; simp) hi
  have e2 : d[j]! = y := get_arr (A := A ++ x :: M) (B := B) h (by rw [hj]; simp; omega)
  unfold swp
  rw [e1, e2, Array.toList_setIfInBounds, Array.toList_setIfInBounds, h, hi, hj]
  exact swap_at A M B x y
theorem swp_down {d : Array Tr} {A M B : List Tr} {x y : Tr} {i j : Nat} (h : d.toList = A ++ x :: M ++ y :: B) (hi : i = A.length) (hj : j = A.length + M.length + 1) : (swp d j i).toList = A ++ y :: M ++ x :: B := by
  rw [← swp_up h hi hj]
  unfold swp
  rw [Array.toList_setIfInBounds, Array.toList_setIfInBounds, Array.toList_setIfInBounds, Array.toList_setIfInBounds, List.set_comm _ _ (by omega)]
/-- an earlier time -/
def less (x y : Tr) : Bool := decide (x.at_ < y.at_)
/-- one element goes down to its place -/
theorem inner_is : ∀ (L1 : List Tr) {d : Array Tr} {P L2 S : List Tr} {x : Tr}, d.toList = P ++ L1 ++ x :: L2 ++ S → (L1 ++ L2).Pairwise lt2 → NoLt (L1 ++ L2) [x] → (∀ v ∈ L2, x.at_ < v.at_) → ∃ M, (insInner less P.length (P.length + L1.length) d).toList = P ++ M ++ S ∧ M.Perm (L1 ++ x :: L2) ∧ M.Pairwise lt2 := by
  intro L1
  induction hn : L1.length generalizing L1 with
  | zero =>
    intro d P L2 S x h hs hno hx
    have : L1 = [] := List.length_eq_zero_iff.1 hn
    subst this
    refine ⟨x :: L2, ?_, List.Perm.refl _, ?_⟩
    · have : insInner less P.length (P.length + 0) d = d := by
        rcases hp : P.length with _ | k
        · rfl
        · show (if k + 1 > k + 1 && _ then _ else d) = d
          simp
      rw [this, h]; simp
    · exact put_high (L1 := []) hs hno (by intro u hu; cases hu) (fun v hv => hx v (List.mem_of_mem_head? hv))
  | succ n ih =>
    intro d P L2 S x h hs hno hx
    rcases hl : L1.getLast? with _ | u
    · rw [List.getLast?_eq_none_iff.1 hl] at hn; simp at hn
    · obtain ⟨L', rfl⟩ := List.getLast?_eq_some_iff.1 hl
      have hn' : L'.length = n := by simpa using hn
      have e1 : d[P.length + n + 1]! = x := get_arr (A := P ++ L' ++ [u]) (B := L2 ++ S) (by rw [h]; simp) (by simp; omega)
      have e2 : d[P.length + n]! = u := get_arr (A := P ++ L') (B := x :: L2 ++ S) (by rw [h]; simp) (by simp; omega)
      show ∃ M, (if P.length + n + 1 > P.length && less d[P.length + n + 1]! d[P.length + n]! then insInner less P.length (P.length + n) (swp d (P.length + n + 1) (P.length + n)) else d).toList = _ ∧ _
      rw [e1, e2]
      by_cases hux : x.at_ < u.at_
      · rw [if_pos (by simp [less, hux]; omega)]
        have hsw : (swp d (P.length + n + 1) (P.length + n)).toList = P ++ L' ++ x :: (u :: L2) ++ S := by
          rw [swp_down (A := P ++ L') (M := []) (B := L2 ++ S) (x := u) (y := x) (by rw [h]; simp) (by simp; omega) (by simp; omega)]
          simp
        obtain ⟨M, m1, m2, m3⟩ := ih L' hn' hsw (by simpa using hs) (by intro a ha b hb; exact hno a (by simp at ha ⊢; rcases ha with h | h | h <;> simp [h]) b hb) (by
          intro v hv
          rcases List.mem_cons.1 hv with rfl | hv
          · exact hux
          · exact hx v hv)
        refine ⟨M, ?_, m2.trans ?_, m3⟩
        · rw [← m1]
        · rw [List.append_assoc]
          exact List.Perm.append_left L' (List.Perm.swap u x L2)
      · rw [if_neg (by simp [less, hux])]
        refine ⟨L' ++ [u] ++ x :: L2, by rw [h]; simp, List.Perm.refl _, ?_⟩
        exact put_high hs hno (by
          intro w hw
          rw [hl] at hw; cases hw
          omega) (fun v hv => hx v (List.mem_of_mem_head? hv))
/-- the row sorted by insertion -/
theorem outer_is : ∀ (R : List Tr) {d : Array Tr} {P L S : List Tr}, d.toList = P ++ L ++ R ++ S → L.Pairwise lt2 → NoLt L R → (R.Pairwise fun x y => x.no < y.no) → ∃ M, (insOuter less P.length (P.length + L.length + R.length) (P.length + L.length) d).toList = P ++ M ++ S ∧ M.Perm (L ++ R) ∧ M.Pairwise lt2
  | [], d, P, L, S, h, hs, hn, hr => by
    unfold insOuter
    rw [if_neg (by simp)]
    exact ⟨L, by simpa using h, by simp, hs⟩
  | x :: R, d, P, L, S, h, hs, hn, hr => by
    obtain ⟨r1, r2⟩ := List.pairwise_cons.1 hr
    obtain ⟨M, m1, m2, m3⟩ := inner_is L (d := d) (P := P) (L2 := []) (S := R ++ S) (x := x) (by rw [h]; simp) (by simpa using hs) (by intro a ha b hb; exact hn a (by simpa using ha) b (by simp at hb; simp [hb])) (by simp)
    have hml : M.length = L.length + 1 := by rw [m2.length_eq]; simp
    unfold insOuter
    rw [if_pos (by simp)]
    obtain ⟨M', a, b, c⟩ := outer_is R (d := insInner less P.length (P.length + L.length) d) (P := P) (L := M) (S := S) (by rw [m1]; simp) m3 (by
      intro a ha b hb
      rcases List.mem_append.1 (m2.mem_iff.1 ha) with ha | ha
      · exact hn a ha b (by simp [hb])
      · rw [List.mem_singleton.1 ha]; exact r1 b hb) r2
    refine ⟨M', ?_, b.trans ?_, c⟩
    · rw [← a, hml]
      rw [show P.length + L.length + (x :: R).length = P.length + (L.length + 1) + R.length by simp; omega, show P.length + L.length + 1 = P.length + (L.length + 1) by omega]
    · exact (m2.append_right R).trans (by simp)
theorem insertion_is {d : Array Tr} {P L S : List Tr} (h : d.toList = P ++ L ++ S) (hno : L.Pairwise fun x y => x.no < y.no) : ∃ M, (insertionSort less d P.length (P.length + L.length)).toList = P ++ M ++ S ∧ M.Perm L ∧ M.Pairwise lt2 := by
  unfold insertionSort
  rcases L with _ | ⟨x, L⟩
  · refine ⟨[], ?_, List.Perm.refl _, List.Pairwise.nil⟩
    unfold insOuter
    rw [if_neg (by simp)]; exact h
  · obtain ⟨l1, l2⟩ := List.pairwise_cons.1 hno
    obtain ⟨M, a, b, c⟩ := outer_is L (d := d) (P := P) (L := [x]) (S := S) (by rw [h]; simp) (by simp) (by intro a ha b hb; rw [List.mem_singleton.1 ha]; exact l1 b hb) l2
    refine ⟨M, ?_, b, c⟩
    rw [← a]
    simp only [List.length_cons, List.length_nil]
    rw [show P.length + (L.length + 1) = P.length + (0 + 1) + L.length by omega]
end Go.Mine.B
namespace Go.Mine.B
open Go.Sort
/-- two blocks, of which the first i elements have changed places -/
def half (A X M Y B : List Tr) (i : Nat) : List Tr := A ++ (Y.take i ++ X.drop i) ++ M ++ (X.take i ++ Y.drop i) ++ B
theorem half_zero (A X M Y B : List Tr) : half A X M Y B 0 = A ++ X ++ M ++ Y ++ B := by simp [half]
theorem half_all (A X M Y B : List Tr) (h : X.length = Y.length) : half A X M Y B X.length = A ++ Y ++ M ++ X ++ B := by
  unfold half
  rw [List.take_length, List.drop_length, h, List.take_length, List.drop_length]; simp
theorem half_next {A X M Y B : List Tr} {d : Array Tr} {i p q : Nat} (hd : d.toList = half A X M Y B i) (h : X.length = Y.length) (hi : i < X.length) (hp : p = A.length + i) (hq : q = A.length + X.length + M.length + i) : (swp d p q).toList = half A X M Y B (i + 1) := by
  unfold half at hd ⊢
  have hy : i < Y.length := by omega
  rw [List.drop_eq_getElem_cons hi, List.drop_eq_getElem_cons hy] at hd
  rw [swp_up (A := A ++ Y.take i) (M := X.drop (i + 1) ++ M ++ X.take i) (B := Y.drop (i + 1) ++ B) (x := X[i]) (y := Y[i]) (by rw [hd]; simp only [List.append_assoc, List.cons_append]) (by simp; omega) (by simp; omega)]
  rw [List.take_succ_eq_append_getElem hi, List.take_succ_eq_append_getElem hy]
  simp only [List.append_assoc, List.cons_append, List.nil_append]
/-- a row turned about: one round, the first block longer -/
theorem turn_left {A X1 X2 Y B : List Tr} (h : X1.length = Y.length) : half A X1 X2 Y B X1.length = (A ++ Y) ++ X2 ++ X1 ++ B := by
  rw [half_all _ _ _ _ _ h]
/-- one round, the second block longer -/
theorem turn_right {A X Y1 Y2 B : List Tr} (h : X.length = Y2.length) : half A X Y1 Y2 B X.length = A ++ Y2 ++ Y1 ++ (X ++ B) := by
  rw [half_all _ _ _ _ _ h]; simp
/-- one element moves up over a block -/
theorem lift_next {A B : List Tr} {x y : Tr} {d : Array Tr} {k : Nat} (hd : d.toList = A ++ x :: y :: B) (hk : k = A.length) : (swp d k (k + 1)).toList = A ++ y :: x :: B := by
  rw [swp_up (A := A) (M := []) (B := B) (x := x) (y := y) (by rw [hd]; simp) hk (by simp; omega)]
  simp
/-- one element moves down over a block -/
theorem sink_next {A B : List Tr} {x y : Tr} {d : Array Tr} {k : Nat} (hd : d.toList = A ++ x :: y :: B) (hk : k = A.length + 1) : (swp d k (k - 1)).toList = A ++ y :: x :: B := by
  rw [swp_down (A := A) (M := []) (B := B) (x := x) (y := y) (by rw [hd]; simp) (by omega) (by simp; omega)]
  simp
end Go.Mine.B
namespace Go.Mine.B
theorem split_at (L : List Tr) {k : Nat} (hk : k ≤ L.length) : ∃ L1 L2, L = L1 ++ L2 ∧ L1.length = k := ⟨L.take k, L.drop k, (List.take_append_drop k L).symm, by simp; omega⟩
theorem last_arr {d : Array Tr} {A L B : List Tr} {u : Tr} {i : Nat} (h : d.toList = A ++ L ++ B) (hu : L.getLast? = some u) (hi : i + 1 = A.length + L.length) : d[i]! = u := by
  obtain ⟨L', rfl⟩ := List.getLast?_eq_some_iff.1 hu
  exact get_arr (A := A ++ L') (B := B) (by rw [h]; simp) (by simp at hi ⊢; omega)
theorem head_arr {d : Array Tr} {A L B : List Tr} {v : Tr} {i : Nat} (h : d.toList = A ++ L ++ B) (hv : L.head? = some v) (hi : i = A.length) : d[i]! = v := by
  rcases L with _ | ⟨z, L⟩
  · cases hv
  · cases hv
    exact get_arr (A := A) (B := L ++ B) (by rw [h]; simp) hi
theorem sym_cut {d : Array Tr} {P L R S : List Tr} {a m b mid s s0 r0 : Nat} (hd : d.toList = P ++ L ++ R ++ S) (ha : a = P.length) (hm : m = a + L.length) (hb : b = m + R.length) (hmid : mid = (a + b) / 2)
    (hs0 : (mid < m ∧ s0 + b = mid + m ∧ r0 = mid) ∨ (m ≤ mid ∧ s0 = a ∧ r0 = m)) (hs : s0 ≤ s) (hsr : s ≤ r0) (c1 : s = s0 ∨ d[s - 1]!.at_ ≤ d[mid + m - s]!.at_) (c2 : s = r0 ∨ d[mid + m - 1 - s]!.at_ < d[s]!.at_) :
    ∃ L1 L2 R1 R2, L = L1 ++ L2 ∧ R = R1 ++ R2 ∧ s = a + L1.length ∧ mid = s + R1.length ∧ (∀ u v, L1.getLast? = some u → R2.head? = some v → u.at_ ≤ v.at_) ∧ (∀ u v, R1.getLast? = some u → L2.head? = some v → u.at_ < v.at_) := by
  have b1 : a ≤ s := by omega
  have b2 : s ≤ m := by omega
  have b3 : s ≤ mid := by omega
  have b4 : mid + m - s ≤ b := by omega
  obtain ⟨L1, L2, rfl, hl⟩ := split_at L (k := s - a) (by omega)
  obtain ⟨R1, R2, rfl, hr⟩ := split_at R (k := mid - s) (by omega)
  simp only [List.length_append] at hm hb
  refine ⟨L1, L2, R1, R2, rfl, rfl, by omega, by omega, fun u v hu hv => ?_, fun u v hu hv => ?_⟩
  · have hl1 : 0 < L1.length := by
      rcases L1 with _ | ⟨z, L1⟩
      · cases hu
      · simp
    have hr2 : 0 < R2.length := by
      rcases R2 with _ | ⟨z, R2⟩
      · cases hv
      · simp
    have e1 := last_arr (d := d) (A := P) (L := L1) (B := L2 ++ (R1 ++ R2) ++ S) (i := s - 1) (by rw [hd]; simp) hu (by omega)
    have e2 := head_arr (d := d) (A := P ++ L1 ++ L2 ++ R1) (L := R2) (B := S) (i := mid + m - s) (by rw [hd]; simp) hv (by simp; omega)
    rw [e1, e2] at c1
    rcases c1 with h | h
    · omega
    · exact h
  · have hr1 : 0 < R1.length := by
      rcases R1 with _ | ⟨z, R1⟩
      · cases hu
      · simp
    have hl2 : 0 < L2.length := by
      rcases L2 with _ | ⟨z, L2⟩
      · cases hv
      · simp
    have e1 := last_arr (d := d) (A := P ++ L1 ++ L2) (L := R1) (B := R2 ++ S) (i := mid + m - 1 - s) (by rw [hd]; simp) hu (by simp; omega)
    have e2 := head_arr (d := d) (A := P ++ L1) (L := L2) (B := R1 ++ R2 ++ S) (i := s) (by rw [hd]; simp) hv (by simp; omega)
    rw [e1, e2] at c2
    rcases c2 with h | h
    · omega
    · exact h
/-- one element alone in the first row -/
theorem low_cut {d : Array Tr} {P R S : List Tr} {x : Tr} {a m b i : Nat} (hd : d.toList = P ++ [x] ++ R ++ S) (ha : a = P.length) (hm : m = a + 1) (hb : b = m + R.length) (hi : m ≤ i) (hib : i ≤ b) (c1 : i = m ∨ d[i - 1]!.at_ < x.at_) (c2 : i = b ∨ ¬ d[i]!.at_ < x.at_) (hR : R.Pairwise lt2) (hn : NoLt [x] R) :
    ∃ R1 R2, R = R1 ++ R2 ∧ i = m + R1.length ∧ Mrg [x] R (R1 ++ x :: R2) := by
  obtain ⟨R1, R2, rfl, hr⟩ := split_at R (k := i - m) (by omega)
  simp only [List.length_append] at hb
  refine ⟨R1, R2, rfl, by omega, mrg_low hR hn (fun u hu => ?_) fun v hv => ?_⟩
  · have hr1 : 0 < R1.length := by
      rcases R1 with _ | ⟨z, R1⟩
      · cases hu
      · simp
    have e1 := last_arr (d := d) (A := P ++ [x]) (L := R1) (B := R2 ++ S) (i := i - 1) (by rw [hd]; simp) hu (by simp; omega)
    rw [e1] at c1
    rcases c1 with h | h
    · omega
    · exact h
  · have hr2 : 0 < R2.length := by
      rcases R2 with _ | ⟨z, R2⟩
      · cases hv
      · simp
    have e2 := head_arr (d := d) (A := P ++ [x] ++ R1) (L := R2) (B := S) (i := i) (by rw [hd]; simp) hv (by simp; omega)
    rw [e2] at c2
    rcases c2 with h | h
    · omega
    · omega
/-- one element alone in the second row -/
theorem high_cut {d : Array Tr} {P L S : List Tr} {y : Tr} {a m i : Nat} (hd : d.toList = P ++ L ++ [y] ++ S) (ha : a = P.length) (hm : m = a + L.length) (hi : a ≤ i) (him : i ≤ m) (c1 : i = a ∨ ¬ y.at_ < d[i - 1]!.at_) (c2 : i = m ∨ y.at_ < d[i]!.at_) (hL : L.Pairwise lt2) (hn : NoLt L [y]) :
    ∃ L1 L2, L = L1 ++ L2 ∧ i = a + L1.length ∧ Mrg L [y] (L1 ++ y :: L2) := by
  obtain ⟨L1, L2, rfl, hl⟩ := split_at L (k := i - a) (by omega)
  simp only [List.length_append] at hm
  refine ⟨L1, L2, rfl, by omega, mrg_high hL hn (fun u hu => ?_) fun v hv => ?_⟩
  · have hl1 : 0 < L1.length := by
      rcases L1 with _ | ⟨z, L1⟩
      · cases hu
      · simp
    have e1 := last_arr (d := d) (A := P) (L := L1) (B := L2 ++ [y] ++ S) (i := i - 1) (by rw [hd]; simp) hu (by omega)
    rw [e1] at c1
    rcases c1 with h | h
    · omega
    · omega
  · have hl2 : 0 < L2.length := by
      rcases L2 with _ | ⟨z, L2⟩
      · cases hv
      · simp
    have e2 := head_arr (d := d) (A := P ++ L1) (L := L2) (B := [y] ++ S) (i := i) (by rw [hd]; simp) hv (by simp; omega)
    rw [e2] at c2
    rcases c2 with h | h
    · omega
    · exact h
end Go.Mine.B
namespace Go.Mine.B
/-- l is l0 with each block of s elements sorted -/
inductive Runs (s : Nat) : List Tr → List Tr → Prop
  | last {l0 l : List Tr} : l0.length ≤ s → l.Perm l0 → l.Pairwise lt2 → Runs s l0 l
  | cons {b0 b l0 l : List Tr} : b0.length = s → b.Perm b0 → b.Pairwise lt2 → Runs s l0 l → Runs s (b0 ++ l0) (b ++ l)
theorem Runs.perm {s : Nat} {l0 l : List Tr} (h : Runs s l0 l) : l.Perm l0 := by
  induction h with
  | last _ h _ => exact h
  | cons _ h _ _ ih => exact h.append ih
theorem Runs.one {s : Nat} {l0 l : List Tr} (h : Runs s l0 l) (hl : l0.length ≤ s) : l.Perm l0 ∧ l.Pairwise lt2 := by
  cases h with
  | last _ h1 h2 => exact ⟨h1, h2⟩
  | cons h0 h1 h2 h3 =>
    rename_i b0 b l0 l
    have e : l0 = [] := List.length_eq_zero_iff.1 (by simp at hl; omega)
    subst e
    have : l = [] := List.perm_nil.1 h3.perm
    subst this
    simpa using ⟨h1, h2⟩
/-- two blocks -/
theorem Runs.two {s : Nat} {l0 l : List Tr} (h : Runs s l0 l) (hs : 0 < s) (hl : s < l0.length) :
    ∃ b0 c0 r0 b c r, l0 = b0 ++ c0 ++ r0 ∧ l = b ++ c ++ r ∧ b0.length = s ∧ b.Perm b0 ∧ c.Perm c0 ∧ b.Pairwise lt2 ∧ c.Pairwise lt2 ∧ Runs s r0 r ∧ 0 < c.length ∧ (r0 = [] ∨ c0.length = s) ∧ c0.length ≤ s := by
  cases h with
  | last h0 _ _ => omega
  | cons h0 h1 h2 h3 =>
    rename_i b0 b l0 l
    simp at hl
    cases h3 with
    | last k0 k1 k2 => exact ⟨b0, l0, [], b, l, [], by simp, by simp, h0, h1, k1, h2, k2, .last (by simp) (List.Perm.refl _) List.Pairwise.nil, by rw [k1.length_eq]; omega, .inl rfl, k0⟩
    | cons k0 k1 k2 k3 =>
      rename_i c0 c r0 r
      exact ⟨b0, c0, r0, b, c, r, by simp, by simp, h0, h1, k1, h2, k2, k3, by rw [k1.length_eq]; omega, .inr k0, by omega⟩
/-- what has been done so far: blocks of s, whatever follows -/
def Done (s : Nat) (x0 x : List Tr) : Prop := ∀ z0 z, Runs s z0 z → Runs s (x0 ++ z0) (x ++ z)
theorem Done.nil (s : Nat) : Done s [] [] := fun _ _ h => h
theorem Done.snoc {s : Nat} {x0 x b0 b : List Tr} (h : Done s x0 x) (h0 : b0.length = s) (h1 : b.Perm b0) (h2 : b.Pairwise lt2) : Done s (x0 ++ b0) (x ++ b) := fun z0 z hz => by
  have := h _ _ (Runs.cons h0 h1 h2 hz)
  simpa using this
theorem Done.end_ {s : Nat} {x0 x b0 b : List Tr} (h : Done s x0 x) (h0 : b0.length ≤ s) (h1 : b.Perm b0) (h2 : b.Pairwise lt2) : Runs s (x0 ++ b0) (x ++ b) := h _ _ (.last h0 h1 h2)
theorem noLt_perm {b0 c0 b c : List Tr} (h : (b0 ++ c0).Pairwise fun x y => x.no < y.no) (hb : b.Perm b0) (hc : c.Perm c0) : NoLt b c := fun x hx y hy =>
  (List.pairwise_append.1 h).2.2 x (hb.mem_iff.1 hx) y (hc.mem_iff.1 hy)
end Go.Mine.B
namespace Go.Mine.X
def givenP (ds : List Int) (n : Int) : Int := (ds.map fun d => min d n).sum
theorem sum_snoc (l : List Int) (x : Int) : (l ++ [x]).sum = l.sum + x := by
  induction l with
  | nil => simp
  | cons y l ih => simp only [List.cons_append, List.sum_cons, ih]; omega
theorem sum_set : ∀ {l : List Int} {k : Nat} {x : Int} (y : Int), l[k]? = some x → (l.set k y).sum = l.sum - x + y
  | [], _, _, _, h => by simp at h
  | z :: l, 0, x, y, h => by
    simp only [List.getElem?_cons_zero, Option.some.injEq] at h
    subst h
    simp only [List.set_cons_zero, List.sum_cons]; omega
  | z :: l, k + 1, x, y, h => by
    simp only [List.getElem?_cons_succ] at h
    simp only [List.set_cons_succ, List.sum_cons, sum_set y h]; omega
theorem sum_bound {m : Int} : ∀ {l : List Int}, (∀ x ∈ l, 0 ≤ x ∧ x ≤ m) → 0 ≤ l.sum ∧ l.sum ≤ (l.length : Int) * m
  | [], _ => by simp
  | x :: l, h => by
    have h1 := sum_bound (l := l) (m := m) (fun y hy => h y (List.mem_cons_of_mem _ hy))
    have h2 := h x (by simp)
    have e : ((l.length + 1 : Nat) : Int) * m = (l.length : Int) * m + m := by rw [Int.natCast_add]; simp [Int.add_mul]
    simp only [List.sum_cons, List.length_cons, e]; omega
/-- no number is negative, and together they are none: each is none -/
theorem sum_zero : ∀ {l : List Int}, (∀ x ∈ l, 0 ≤ x) → l.sum = 0 → ∀ x ∈ l, x = 0
  | [], _, _, x, hx => by simp at hx
  | z :: l, h, hs, x, hx => by
    have h1 := h z (by simp)
    have h3 : 0 ≤ l.sum := by
      clear hs hx
      have : ∀ {l : List Int}, (∀ x ∈ l, 0 ≤ x) → 0 ≤ l.sum := by
        intro l h
        induction l with
        | nil => simp
        | cons y l ih =>
          have h1 := h y (by simp)
          have := ih fun x hx => h x (List.mem_cons_of_mem _ hx)
          simp only [List.sum_cons]; omega
      exact this fun x hx => h x (List.mem_cons_of_mem _ hx)
    simp only [List.sum_cons] at hs
    rcases List.mem_cons.1 hx with rfl | hx
    · omega
    · exact sum_zero (fun x hx => h x (List.mem_cons_of_mem _ hx)) (by omega) x hx
theorem given_take {ds : List Int} {k : Nat} {d : Int} (h : ds[k]? = some d) (n : Int) : givenP (ds.take (k + 1)) n = givenP (ds.take k) n + min d n := by
  have e : ds.take (k + 1) = ds.take k ++ [d] := by
    rw [List.take_add_one, h]; rfl
  unfold givenP
  rw [e, List.map_append, List.map_cons, List.map_nil, sum_snoc]
theorem given_bound {m : Int} {ds : List Int} (h : ∀ d ∈ ds, 0 ≤ d ∧ d ≤ m) {n : Int} (hn : 0 ≤ n) : 0 ≤ givenP ds n ∧ givenP ds n ≤ (ds.length : Int) * m := by
  unfold givenP
  have := sum_bound (m := m) (l := ds.map fun d => min d n) (fun x hx => by
    obtain ⟨d, hd, rfl⟩ := List.mem_map.1 hx
    have := h d hd
    omega)
  simpa using this
theorem given_zero : ∀ {ds : List Int}, (∀ d ∈ ds, 0 ≤ d) → givenP ds 0 = 0
  | [], _ => rfl
  | d :: ds, h => by
    have h1 := h d (by simp)
    have h2 := given_zero (ds := ds) fun x hx => h x (List.mem_cons_of_mem _ hx)
    unfold givenP at *
    simp only [List.map_cons, List.sum_cons, h2]; omega
/-- a division: nobody gets more than wanted; who gets less gets as much as everybody else, less 1 -/
structure DivP (c : Int) (ds l : List Int) : Prop where
  len : l.length = ds.length
  sum : l.sum ≤ c
  lev : ∃ n, 0 ≤ n ∧ ∀ (i : Nat) (d x : Int), ds[i]? = some d → l[i]? = some x → (x = min d n ∨ (n < d ∧ x = n + 1))
theorem DivP.part {c : Int} {ds l : List Int} (h : DivP c ds l) (hd : ∀ d ∈ ds, 0 ≤ d) : ∃ n, 0 ≤ n ∧ (∀ x ∈ l, 0 ≤ x ∧ x ≤ n + 1) ∧ ∀ (i : Nat) (d x : Int), ds[i]? = some d → l[i]? = some x → x ≤ d ∧ (x < d → n ≤ x) := by
  obtain ⟨n, hn, hl⟩ := h.lev
  refine ⟨n, hn, fun x hx => ?_, fun i d x h1 h2 => ?_⟩
  · obtain ⟨i, hi⟩ := List.getElem?_of_mem hx
    have hil : i < ds.length := by
      have := (List.getElem?_eq_some_iff.1 hi).1
      rw [h.len] at this; exact this
    have h1 := hl i ds[i] x (List.getElem?_eq_getElem hil) hi
    have h2 := hd ds[i] (List.getElem_mem hil)
    omega
  · have h3 := hl i d x h1 h2
    omega
/-- the demands that are greater than a level: where they stand -/
def wantP (ds : List Int) (n : Int) : List Nat := (List.range ds.length).filter fun i => decide (n < ds[i]?.getD 0)
theorem want_mem {ds : List Int} {n : Int} {i : Nat} (h : i ∈ wantP ds n) : ∃ d, ds[i]? = some d ∧ n < d := by
  obtain ⟨h1, h2⟩ := List.mem_filter.1 h
  have hi := List.mem_range.1 h1
  refine ⟨ds[i], List.getElem?_eq_getElem hi, ?_⟩
  rw [List.getElem?_eq_getElem hi] at h2
  exact of_decide_eq_true h2
theorem want_nodup (ds : List Int) (n : Int) : (wantP ds n).Nodup := List.nodup_range.sublist List.filter_sublist
/-- what a division has become when the first few of those who want more have got 1 more -/
structure DivG (c : Int) (ds : List Int) (n : Int) (rest : List Nat) (v : Int) (l : List Int) : Prop where
  len : l.length = ds.length
  sum : l.sum = c - v
  pos : 0 ≤ v
  lev : ∀ (i : Nat) (d x : Int), ds[i]? = some d → l[i]? = some x → (x = min d n ∨ (n < d ∧ x = n + 1))
  rest : ∀ i ∈ rest, l[i]? = some n
theorem DivG.done {c : Int} {ds : List Int} {n : Int} {rest : List Nat} {v : Int} {l : List Int} (h : DivG c ds n rest v l) (hn : 0 ≤ n) : DivP c ds l :=
  ⟨h.len, by have := h.sum; have := h.pos; omega, n, hn, h.lev⟩
theorem DivG.start {c : Int} {ds : List Int} {n : Int} (h : givenP ds n ≤ c) : DivG c ds n (wantP ds n) (c - givenP ds n) (ds.map fun d => min d n) := by
  refine ⟨by simp, by unfold givenP; omega, by omega, fun i d x h1 h2 => .inl ?_, fun i hi => ?_⟩
  · rw [List.getElem?_map, h1] at h2
    exact (Option.some.inj h2).symm
  · obtain ⟨d, h1, h2⟩ := want_mem hi
    rw [List.getElem?_map, h1]
    simp only [Option.map_some, Option.some.injEq]; omega
theorem DivG.step {c : Int} {ds : List Int} {n : Int} {i : Nat} {rest : List Nat} {v : Int} {l : List Int} (h : DivG c ds n (i :: rest) v l) (hi : i ∉ rest) (hd : ∃ d, ds[i]? = some d ∧ n < d) (hv : v ≠ 0) : DivG c ds n rest (v - 1) (l.set i (n + 1)) := by
  have hl := h.rest i (by simp)
  have hil := (List.getElem?_eq_some_iff.1 hl).1
  refine ⟨by simp [h.len], by rw [sum_set _ hl, h.sum]; omega, by have := h.pos; omega, fun j d x h1 h2 => ?_, fun j hj => ?_⟩
  · by_cases e : j = i
    · subst e
      rw [List.getElem?_set_self hil] at h2
      obtain ⟨d', h3, h4⟩ := hd
      rw [h1] at h3
      obtain rfl := Option.some.inj h3
      exact .inr ⟨h4, (Option.some.inj h2).symm⟩
    · rw [List.getElem?_set_ne (fun e' => e e'.symm)] at h2
      exact h.lev j d x h1 h2
  · have e : j ≠ i := fun e => hi (e ▸ hj)
    rw [List.getElem?_set_ne (fun e' => e e'.symm)]
    exact h.rest j (List.mem_cons_of_mem _ hj)
end Go.Mine.X
namespace Go.Mine.X
open Go.Mine.B
/-- the trades that are made, while `more` is what is still to be got -/
structure Deal (b : List Bu) (P : Pu) (s no at_ known : Int) (T more : List Int) (ts : List Tr) : Prop where
  len : more.length = b.length
  ok : okP (ts.foldl perf P)
  sum : more.sum = 0
  nos : ∀ (j : Nat) (t : Tr), ts[j]? = some t → t.no = no + j
  what : ∀ t ∈ ts, t.at_ = at_ ∧ t.known = known ∧ t.stg = s ∧ has b t.fr = true ∧ has b t.to = true ∧ t.fr ≠ t.to ∧ 1 ≤ t.ms ∧ t.ms ≤ most
  val : ∀ (i : Nat) (y : Bu) (t m : Int), b[i]? = some y → T[i]? = some t → more[i]? = some m → valP (ts.foldl perf P) y.lang s = t - m
  other : ∀ (n r : Int), stage r → r ≠ s → valP (ts.foldl perf P) n r = valP P n r
theorem Deal.start {b : List Bu} {P : Pu} {s no at_ known : Int} {T : List Int} (hP : okP P) (hl : T.length = b.length) (hs : T.sum = (b.map fun y => valP P y.lang s).sum) {more : List Int} (hm : more.length = b.length)
    (hmv : ∀ (i : Nat) (y : Bu) (t m : Int), b[i]? = some y → T[i]? = some t → more[i]? = some m → m = t - valP P y.lang s) : Deal b P s no at_ known T more [] := by
  refine ⟨hm, hP, ?_, by simp, by simp, fun i y t m h1 h2 h3 => ?_, fun _ _ _ _ => rfl⟩
  · have : ∀ {b : List Bu} {T more : List Int}, T.length = b.length → more.length = b.length → (∀ (i : Nat) (y : Bu) (t m : Int), b[i]? = some y → T[i]? = some t → more[i]? = some m → m = t - valP P y.lang s) → more.sum = T.sum - (b.map fun y => valP P y.lang s).sum := by
      intro b
      induction b with
      | nil =>
        intro T more h1 h2 _
        obtain rfl := List.length_eq_zero_iff.1 h1
        obtain rfl := List.length_eq_zero_iff.1 h2
        rfl
      | cons y b ih =>
        intro T more h1 h2 h3
        match T, more, h1, h2 with
        | t :: T, m :: more, h1, h2 =>
          have e := h3 0 y t m rfl rfl rfl
          have := ih (T := T) (more := more) (by simpa using h1) (by simpa using h2) fun i y t m g1 g2 g3 => h3 (i + 1) y t m (by simpa using g1) (by simpa using g2) (by simpa using g3)
          simp only [List.map_cons, List.sum_cons]; omega
    rw [this hl hm hmv, hs]; omega
  · show valP P y.lang s = t - m
    have := hmv i y t m h1 h2 h3
    omega
/-- a trade goes on from one that has too much to one that has too little -/
theorem Deal.step {b : List Bu} {P : Pu} {s no at_ known : Int} {T more : List Int} {ts : List Tr} (h : Deal b P s no at_ known T more ts) (hb : b.Pairwise fun x y => x.lang < y.lang) (hst : stage s) (hT : ∀ t ∈ T, 0 ≤ t ∧ t ≤ most) (hTl : T.length = b.length)
    {i j : Nat} {x y : Bu} {m n : Int} (hx : b[i]? = some x) (hy : b[j]? = some y) (hm : more[i]? = some m) (hn : more[j]? = some n) {q : Int} (hq : q = min (-m) n) (hpos : 0 < q) :
    Deal b P s no at_ known T ((more.set i (m + q)).set j (n - q)) (ts ++ [⟨no + ts.length, at_, known, s, x.lang, y.lang, q⟩]) := by
  have hij : i ≠ j := by rintro rfl; rw [hm] at hn; have := Option.some.inj hn; omega
  have hil := (List.getElem?_eq_some_iff.1 hx).1
  have hjl := (List.getElem?_eq_some_iff.1 hy).1
  have hne : x.lang ≠ y.lang := by
    have ex := (List.getElem?_eq_some_iff.1 hx).2
    have ey := (List.getElem?_eq_some_iff.1 hy).2
    rw [← ex, ← ey]
    rcases Nat.lt_or_gt_of_ne hij with h1 | h1
    · have := List.pairwise_iff_getElem.1 hb i j hil hjl h1; omega
    · have := List.pairwise_iff_getElem.1 hb j i hjl hil h1; omega
  obtain ⟨t, ht⟩ : ∃ t, T[i]? = some t := ⟨_, List.getElem?_eq_getElem (by omega)⟩
  obtain ⟨u, hu⟩ : ∃ u, T[j]? = some u := ⟨_, List.getElem?_eq_getElem (by omega)⟩
  have htb := hT t (List.mem_of_getElem? ht)
  have hub := hT u (List.mem_of_getElem? hu)
  have v1 := h.val i x t m hx ht hm
  have v2 := h.val j y u n hy hu hn
  have hbx : has b x.lang = true := List.any_eq_true.2 ⟨x, List.mem_of_getElem? hx, by simp⟩
  have hby : has b y.lang = true := List.any_eq_true.2 ⟨y, List.mem_of_getElem? hy, by simp⟩
  have hml := h.len
  have hn' : (more.set i (m + q))[j]? = some n := by rw [List.getElem?_set_ne hij]; exact hn
  have hqm : q ≤ most := by
    have h1 := (okQ_get (okP_get h.ok y.lang) s).1
    have h2 : valP (ts.foldl perf P) y.lang s = qg ((ts.foldl perf P y.lang).getD q0) s := rfl
    omega
  have hval : ∀ k r, stage r → valP (perf (ts.foldl perf P) ⟨no + ts.length, at_, known, s, x.lang, y.lang, q⟩) k r = if r ≠ s then valP (ts.foldl perf P) k r else if k = x.lang then valP (ts.foldl perf P) k r - q else if k = y.lang then valP (ts.foldl perf P) k r + q else valP (ts.foldl perf P) k r := by
    intro k r hr
    rw [perf_val (x := ⟨no + ts.length, at_, known, s, x.lang, y.lang, q⟩) _ hne k r hst hr]
    dsimp only
    rw [v1, v2]
    by_cases e : r = s
    · have hc : ¬ (t - m < q ∨ most < u - n + q ∨ r ≠ s) := by omega
      have hd : ¬ r ≠ s := fun h => h e
      rw [if_neg hc, if_neg hd]
    · rw [if_pos (.inr (.inr e)), if_pos e]
  refine ⟨by simp [hml], ?_, ?_, fun k z hz => ?_, fun z hz => ?_, fun k z t' m' h1 h2 h3 => ?_, fun k r hr hrs => ?_⟩
  · rw [List.foldl_append]
    exact okP_perf (x := ⟨no + ts.length, at_, known, s, x.lang, y.lang, q⟩) h.ok (by dsimp only; omega)
  · rw [sum_set _ hn', sum_set _ hm, h.sum]; omega
  · rcases Nat.lt_or_ge k ts.length with hk | hk
    · rw [List.getElem?_append_left hk] at hz; exact h.nos k z hz
    · rw [List.getElem?_append_right hk] at hz
      have : k - ts.length < 1 := (List.getElem?_eq_some_iff.1 hz).1
      have e : k = ts.length := by omega
      subst e
      rw [Nat.sub_self] at hz
      simp only [List.getElem?_cons_zero, Option.some.injEq] at hz
      rw [← hz]
  · rcases List.mem_append.1 hz with hz | hz
    · exact h.what z hz
    · rw [List.mem_singleton] at hz
      subst hz
      exact ⟨rfl, rfl, rfl, hbx, hby, hne, by dsimp only; omega, hqm⟩
  · rw [List.foldl_append]
    show valP (perf (ts.foldl perf P) _) z.lang s = _
    rw [hval z.lang s hst, if_neg (by simp)]
    by_cases ej : k = j
    · subst ej
      rw [List.getElem?_set_self (by simp; omega)] at h3
      rw [hy] at h1
      obtain rfl := Option.some.inj h1
      obtain rfl := Option.some.inj h3
      rw [hu] at h2
      obtain rfl := Option.some.inj h2
      rw [if_neg (fun e => hne e.symm), if_pos rfl, v2]; omega
    · rw [List.getElem?_set_ne (fun e => ej e.symm)] at h3
      by_cases ei : k = i
      · subst ei
        rw [List.getElem?_set_self (by omega)] at h3
        rw [hx] at h1
        obtain rfl := Option.some.inj h1
        obtain rfl := Option.some.inj h3
        rw [ht] at h2
        obtain rfl := Option.some.inj h2
        rw [if_pos rfl, v1]; omega
      · rw [List.getElem?_set_ne (fun e => ei e.symm)] at h3
        have hkl := (List.getElem?_eq_some_iff.1 h1).1
        have hz1 : z.lang ≠ x.lang := by
          have ez := (List.getElem?_eq_some_iff.1 h1).2
          have ex := (List.getElem?_eq_some_iff.1 hx).2
          rw [← ez, ← ex]
          rcases Nat.lt_or_gt_of_ne ei with h1 | h1
          · have := List.pairwise_iff_getElem.1 hb k i hkl hil h1; omega
          · have := List.pairwise_iff_getElem.1 hb i k hil hkl h1; omega
        have hz2 : z.lang ≠ y.lang := by
          have ez := (List.getElem?_eq_some_iff.1 h1).2
          have ey := (List.getElem?_eq_some_iff.1 hy).2
          rw [← ez, ← ey]
          rcases Nat.lt_or_gt_of_ne ej with h1 | h1
          · have := List.pairwise_iff_getElem.1 hb k j hkl hjl h1; omega
          · have := List.pairwise_iff_getElem.1 hb j k hjl hkl h1; omega
        rw [if_neg hz1, if_neg hz2]
        exact h.val k z t' m' h1 h2 h3
  · rw [List.foldl_append]
    show valP (perf (ts.foldl perf P) _) k r = _
    rw [hval k r hr, if_pos hrs]
    exact h.other k r hr hrs
end Go.Mine.X
namespace Go.Mine.X
open Go.Mine.B
structure Sgn (more : List Int) (f t : Nat) : Prop where
  past : ∀ (i : Nat) (m : Int), i < f → more[i]? = some m → 0 ≤ m
  here : ∀ m : Int, more[f]? = some m → 0 ≤ m ∨ ∀ (j : Nat) (n : Int), j < t → more[j]? = some n → n ≤ 0
theorem Sgn.start (more : List Int) : Sgn more 0 0 := ⟨fun _ _ h => by omega, fun _ _ => .inr fun _ _ h => by omega⟩
theorem Sgn.skip {more : List Int} {f t : Nat} (h : Sgn more f t) {m n : Int} (hm : more[f]? = some m) (hn : more[t]? = some n) (hq : min (-m) n ≤ 0) : Sgn more f (t + 1) := by
  refine ⟨h.past, fun m' hm' => ?_⟩
  rw [hm] at hm'
  obtain rfl := Option.some.inj hm'
  rcases h.here m hm with h1 | h1
  · exact .inl h1
  · by_cases h0 : 0 ≤ m
    · exact .inl h0
    · refine .inr fun j n' hj hn' => ?_
      by_cases e : j = t
      · subst e
        rw [hn] at hn'
        obtain rfl := Option.some.inj hn'
        omega
      · exact h1 j n' (by omega) hn'
theorem Sgn.step {more : List Int} {f t : Nat} (h : Sgn more f t) {m n q : Int} (hm : more[f]? = some m) (hn : more[t]? = some n) (hq : q = min (-m) n) (hpos : 0 < q) : Sgn ((more.set f (m + q)).set t (n - q)) f (t + 1) := by
  have hft : f ≠ t := by rintro rfl; rw [hm] at hn; have := Option.some.inj hn; omega
  have hfl := (List.getElem?_eq_some_iff.1 hm).1
  have htl := (List.getElem?_eq_some_iff.1 hn).1
  refine ⟨fun i m' hi hm' => ?_, fun m' hm' => ?_⟩
  · by_cases e : i = t
    · subst e
      rw [List.getElem?_set_self (by simp; omega)] at hm'
      have := Option.some.inj hm'
      omega
    · rw [List.getElem?_set_ne (fun e' => e e'.symm), List.getElem?_set_ne (by omega)] at hm'
      exact h.past i m' hi hm'
  · rw [List.getElem?_set_ne (fun e' => hft e'.symm), List.getElem?_set_self hfl] at hm'
    obtain rfl := Option.some.inj hm'
    rcases h.here m hm with h1 | h1
    · omega
    · by_cases h0 : 0 ≤ m + q
      · exact .inl h0
      · refine .inr fun j n' hj hn' => ?_
        by_cases e : j = t
        · subst e
          rw [List.getElem?_set_self (by simp; omega)] at hn'
          have := Option.some.inj hn'
          omega
        · rw [List.getElem?_set_ne (fun e' => e e'.symm)] at hn'
          by_cases e2 : j = f
          · subst e2
            rw [List.getElem?_set_self hfl] at hn'
            have := Option.some.inj hn'
            omega
          · rw [List.getElem?_set_ne (fun e' => e2 e'.symm)] at hn'
            exact h1 j n' (by omega) hn'
theorem sum_neg : ∀ {l : List Int}, (∀ x ∈ l, x ≤ 0) → l.sum = 0 → ∀ x ∈ l, x = 0
  | [], _, _, x, hx => by simp at hx
  | z :: l, h, hs, x, hx => by
    have h1 := h z (by simp)
    have h3 : l.sum ≤ 0 := by
      have : ∀ {l : List Int}, (∀ x ∈ l, x ≤ 0) → l.sum ≤ 0 := by
        intro l h
        induction l with
        | nil => simp
        | cons y l ih =>
          have h1 := h y (by simp)
          have := ih fun x hx => h x (List.mem_cons_of_mem _ hx)
          simp only [List.sum_cons]; omega
      exact this fun x hx => h x (List.mem_cons_of_mem _ hx)
    simp only [List.sum_cons] at hs
    rcases List.mem_cons.1 hx with rfl | hx
    · omega
    · exact sum_neg (fun x hx => h x (List.mem_cons_of_mem _ hx)) (by omega) x hx
theorem Sgn.next {more : List Int} {f : Nat} (h : Sgn more f more.length) (hs : more.sum = 0) : Sgn more (f + 1) 0 := by
  refine ⟨fun i m hi hm => ?_, fun _ _ => .inr fun _ _ hj => by omega⟩
  by_cases e : i = f
  · subst e
    rcases h.here m hm with h1 | h1
    · exact h1
    · have := sum_neg (l := more) (fun x hx => by
        obtain ⟨j, hj⟩ := List.getElem?_of_mem hx
        exact h1 j x (List.getElem?_eq_some_iff.1 hj).1 hj) hs m (List.mem_of_getElem? hm)
      omega
  · exact h.past i m (by omega) hm
theorem Sgn.done {more : List Int} {t : Nat} (h : Sgn more more.length t) (hs : more.sum = 0) : ∀ x ∈ more, x = 0 :=
  sum_zero (fun x hx => by
    obtain ⟨j, hj⟩ := List.getElem?_of_mem hx
    exact h.past j x (List.getElem?_eq_some_iff.1 hj).1 hj) hs
/-- what the trades are, when they are all made -/
structure Done (b : List Bu) (P : Pu) (s no at_ known : Int) (T : List Int) (ts : List Tr) : Prop where
  nos : ∀ (j : Nat) (t : Tr), ts[j]? = some t → t.no = no + j
  what : ∀ t ∈ ts, t.at_ = at_ ∧ t.known = known ∧ t.stg = s ∧ has b t.fr = true ∧ has b t.to = true ∧ t.fr ≠ t.to ∧ 1 ≤ t.ms ∧ t.ms ≤ most
  val : ∀ (i : Nat) (y : Bu) (t : Int), b[i]? = some y → T[i]? = some t → valP (ts.foldl perf P) y.lang s = t
  other : ∀ (n r : Int), stage r → r ≠ s → valP (ts.foldl perf P) n r = valP P n r
theorem Deal.done {b : List Bu} {P : Pu} {s no at_ known : Int} {T more : List Int} {ts : List Tr} (h : Deal b P s no at_ known T more ts) {t : Nat} (hg : Sgn more more.length t) : Done b P s no at_ known T ts :=
  ⟨h.nos, h.what, fun i y t h1 h2 => by
    have hil := (List.getElem?_eq_some_iff.1 h1).1
    have hml := h.len
    have h3 : more[i]? = some (more[i]'(by omega)) := List.getElem?_eq_getElem (by omega)
    have := h.val i y t _ h1 h2 h3
    have := hg.done h.sum _ (List.mem_of_getElem? h3)
    omega, h.other⟩
theorem fold_ins {a : Int} : ∀ (ts acc : List Tr), (∀ y ∈ acc, y.at_ ≤ a) → (∀ t ∈ ts, t.at_ = a) → ts.foldl ins acc = acc ++ ts
  | [], acc, _, _ => by simp
  | x :: ts, acc, h1, h2 => by
    have hx := h2 x (by simp)
    rw [List.foldl_cons, ins_last acc x fun y hy => by have := h1 y hy; omega, fold_ins ts (acc ++ [x]) (fun y hy => by
      rcases List.mem_append.1 hy with hy | hy
      · exact h1 y hy
      · rw [List.mem_singleton] at hy; subst hy; omega) fun t ht => h2 t (List.mem_cons_of_mem _ ht)]
    simp
theorem fin_app (b : List Bu) (l : List Tr) {ts : List Tr} {at_ known : Int} (h : ∀ t ∈ ts, t.at_ = at_ ∧ t.known = known) : fin b (l ++ ts) at_ known = ts.foldl perf (fin b l at_ known) := by
  unfold fin
  have e : picks (l ++ ts) at_ known = picks l at_ known ++ ts := by
    unfold picks
    rw [List.filter_append]
    congr 1
    rw [List.filter_eq_self]
    intro t ht
    obtain ⟨h1, h2⟩ := h t ht
    simp; omega
  have e2 : srt (picks l at_ known ++ ts) = srt (picks l at_ known) ++ ts := by
    unfold srt
    rw [List.foldl_append]
    refine fold_ins (a := at_) _ _ (fun y hy => ?_) fun t ht => (h t ht).1
    have := srt_mem (picks l at_ known) y hy
    have := (List.mem_filter.1 this).2
    simp at this; omega
  rw [e, e2, List.foldl_append]
theorem q_ext {q r : Q} (h : ∀ s, stage s → qg q s = qg r s) : q = r := by
  have h0 := h 0 ⟨by omega, by omega⟩
  have h1 := h 1 ⟨by omega, by omega⟩
  have h2 := h 2 ⟨by omega, by omega⟩
  have h3 := h 3 ⟨by omega, by omega⟩
  obtain ⟨a, b, c, d⟩ := q
  obtain ⟨a', b', c', d'⟩ := r
  simp [qg] at h0 h1 h2 h3
  rw [h0, h1, h2, h3]
/-- what stands then -/
theorem done_q {b : List Bu} {l ts : List Tr} {s no at_ known : Int} {T : List Int} (hst : stage s) (h : Done b (fin b l at_ known) s no at_ known T ts) {i : Nat} {y : Bu} {t : Int} (hy : b[i]? = some y) (ht : T[i]? = some t) :
    stq b (l ++ ts) y.lang at_ known = qs (stq b l y.lang at_ known) s t := by
  unfold stq
  rw [fin_app b l fun t ht => ⟨(h.what t ht).1, (h.what t ht).2.1⟩]
  refine q_ext fun r hr => ?_
  by_cases e : r = s
  · subst e
    rw [qg_qs_same]
    exact h.val i y t hy ht
  · rw [qg_qs_other _ _ hst hr e]
    exact h.other y.lang r hr e
theorem done_chk {b : List Bu} {l ts : List Tr} {s no at_ known : Int} {T : List Int} (hst : stage s) (hc : chkB b l = true) {P : Pu} (h : Done b P s no at_ known T ts) (hat : 0 ≤ at_ ∧ at_ < 1099511627776) (hk : 0 ≤ known ∧ known < 1099511627776)
    (hno : 0 ≤ no ∧ ∀ x ∈ l, x.no < no) (hlast : no + ts.length ≤ 1048577) : chkB b (l ++ ts) = true := by
  have hh := chkB_parts hc
  unfold chkB at hc ⊢
  simp only [Bool.and_eq_true, List.all_eq_true] at hc ⊢
  obtain ⟨⟨⟨h1, h2⟩, h3⟩, h4⟩ := hc
  refine ⟨⟨⟨h1, h2⟩, fun x hx => ?_⟩, ?_⟩
  · rcases List.mem_append.1 hx with hx | hx
    · exact h3 x hx
    · obtain ⟨g1, g2, g3, g4, g5, g6, g7, g8⟩ := h.what x hx
      obtain ⟨j, hj⟩ := List.getElem?_of_mem hx
      have g9 := h.nos j x hj
      have hjl := (List.getElem?_eq_some_iff.1 hj).1
      obtain ⟨s1, s2⟩ := hst
      unfold rightT
      rw [g4, g5]
      simp only [Bool.and_eq_true, Bool.and_true, inR_iff, Bool.not_eq_true', decide_eq_false_iff_not]
      refine ⟨⟨⟨⟨⟨?_, ?_⟩, ?_⟩, ?_⟩, g6⟩, g7, g8⟩ <;> omega
  · rw [incT_pair, List.pairwise_append]
    refine ⟨incT_pair.1 h4, ?_, fun x hx y hy => ?_⟩
    · rw [List.pairwise_iff_getElem]
      intro i j hi hj hij
      have e1 := h.nos i _ (List.getElem?_eq_getElem hi)
      have e2 := h.nos j _ (List.getElem?_eq_getElem hj)
      omega
    · obtain ⟨j, hj⟩ := List.getElem?_of_mem hy
      have e2 := h.nos j _ hj
      have := hno.2 x hx
      omega
end Go.Mine.X
