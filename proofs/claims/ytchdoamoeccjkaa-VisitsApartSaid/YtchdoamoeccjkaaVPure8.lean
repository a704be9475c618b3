/-
  Layer 52 (visits), plainly: one language at each time; the spans of all languages; visits without changes of languages.
-/
import Derived.Test.YtchdoamoeccjkaaVM1
import Derived.Test.YtchdoamoeccjkaaSPure5
namespace Go.Mine.V
open Go.Mine.S (Sp good inL good_one uni uni_in uni_good uni_length fOr fAnd chkS chkS_of uni_nil)
theorem spans_len (l : List Vi) (w g : Int) : (spans w g l).length ≤ l.length + 1 := by
  rw [spans_fold]
  have h1 := foldS_length g (stL w nobody (own w l)) ([], -1)
  have h2 := endS_length ((stL w nobody (own w l)).foldl (stepS g) ([], -1)).1 ((stL w nobody (own w l)).foldl (stepS g) ([], -1)).2 End
  rw [stL_length] at h1
  have h3 := own_length w l
  simp at h1
  omega
theorem chkS_spans {l : List Vi} (h : chk l = 0) (hl : l.length ≤ 40) (w g : Int) : chkS (spans w g l) = 0 :=
  chkS_of (spans_is (chk_go h).1 w g).1 (by have := spans_len l w g; omega)
/-- what is true of each language -/
theorem exact_facts {l : List Vi} (h : chk l = 0) (w t g : Int) (ht : t < 1099511627776) :
    inL (spans w g l) t = ((seesS (upTo nobody t l w)).2 && decide ((seesS (upTo nobody t l w)).1 = g)) ∧
    decide (w ∈ pres l g t) = ((seesS (upTo nobody t l w)).2 && decide ((seesS (upTo nobody t l w)).1 = g)) := by
  have hs : seeAt l w g t = ((seesS (upTo nobody t l w)).2 && decide ((seesS (upTo nobody t l w)).1 = g)) := seesS_sight _ _
  rw [← hs]
  constructor
  · rw [(spans_is (chk_go h).1 w g).2 t, show decide (t < End) = true from decide_eq_true ht, Bool.true_and]
  · rw [Bool.eq_iff_iff, decide_eq_true_eq, (pres_is l g t).2 w]
theorem own_range {l : List Vi} {w t : Int} (h : (seesS (upTo nobody t l w)).2 = true) : 0 ≤ (seesS (upTo nobody t l w)).1 ∧ (seesS (upTo nobody t l w)).1 < 32 := by
  have hl := upTo_lang l nobody t (fun w o g hw => by cases hw) w
  rcases hu : upTo nobody t l w with _ | ⟨o, g⟩
  · rw [hu] at h; cases h
  · rw [hu] at h
    cases o
    · cases h
    · have := hl _ _ hu
      rw [inB_iff] at this
      exact this
/-! ### languages apart -/
theorem apart_no {l : List Vi} (h : chk l = 0) (w : Int) {x y : Int} (hxy : x ≠ y) : uni fAnd (spans w x l) (spans w y l) = [] := by
  obtain ⟨a1, a2⟩ := spans_is (chk_go h).1 w x
  obtain ⟨b1, b2⟩ := spans_is (chk_go h).1 w y
  refine good_one _ _ (-1) (-1) (uni_good (f := fAnd) rfl a1 b1) trivial fun t => ?_
  rw [uni_in (f := fAnd) rfl a1 b1, a2, b2]
  have e1 : seeAt l w x t = ((seesS (upTo nobody t l w)).2 && decide ((seesS (upTo nobody t l w)).1 = x)) := seesS_sight _ _
  have e2 : seeAt l w y t = ((seesS (upTo nobody t l w)).2 && decide ((seesS (upTo nobody t l w)).1 = y)) := seesS_sight _ _
  rw [e1, e2]
  generalize (seesS (upTo nobody t l w)).1 = g
  by_cases hg : g = x
  · have : ¬ g = y := fun e => hxy (hg ▸ e)
    simp [fAnd, inL, this]
  · simp [fAnd, inL, hg]
theorem apart_yes {l : List Vi} (h : chk l = 0) (w x : Int) : uni fAnd (spans w x l) (spans w x l) = spans w x l := by
  obtain ⟨a1, a2⟩ := spans_is (chk_go h).1 w x
  refine good_one _ _ (-1) (-1) (uni_good (f := fAnd) rfl a1 a1) a1 fun t => ?_
  rw [uni_in (f := fAnd) rfl a1 a1]
  simp [fAnd]
/-- the spans of the first languages together -/
def unis (w : Int) (l : List Vi) : Nat → List Sp
  | 0 => []
  | k + 1 => uni fOr (unis w l k) (spans w k l)
theorem unis_good {l : List Vi} (h : chk l = 0) (w : Int) : ∀ k, good (-1) (unis w l k) ∧ (unis w l k).length ≤ k * (l.length + 1) ∧ ∀ t, inL (unis w l k) t = (decide (t < End) && decide (∃ g : Nat, g < k ∧ seeAt l w g t = true))
  | 0 => ⟨trivial, by simp [unis], fun t => by simp [unis, inL]⟩
  | k + 1 => by
    obtain ⟨a1, a2, a3⟩ := unis_good h w k
    obtain ⟨b1, b2⟩ := spans_is (chk_go h).1 w k
    refine ⟨uni_good (f := fOr) rfl a1 b1, ?_, fun t => ?_⟩
    · have h1 := uni_length (f := fOr) (a := unis w l k) (b := spans w k l)
      have h2 := spans_len l w k
      show (uni fOr (unis w l k) (spans w k l)).length ≤ _
      rw [Nat.succ_mul]; omega
    · show inL (uni fOr (unis w l k) (spans w k l)) t = _
      rw [uni_in (f := fOr) rfl a1 b1, a3, b2]
      unfold fOr
      cases decide (t < End)
      · rfl
      · simp only [Bool.true_and]
        rw [Bool.eq_iff_iff]
        simp only [Bool.or_eq_true, decide_eq_true_eq]
        constructor
        · rintro (⟨g, h1, h2⟩ | h1)
          · exact ⟨g, by omega, h2⟩
          · exact ⟨k, by omega, h1⟩
        · rintro ⟨g, h1, h2⟩
          by_cases hg : g = k
          · subst hg; exact .inr h2
          · exact .inl ⟨g, by omega, h2⟩
theorem chkS_unis {l : List Vi} (h : chk l = 0) (hl : l.length ≤ 40) (w : Int) {k : Nat} (hk : k ≤ 32) : chkS (unis w l k) = 0 ∧ (unis w l k).length ≤ 1312 := by
  obtain ⟨a1, a2, _⟩ := unis_good h w k
  have : (unis w l k).length ≤ 1312 := Nat.le_trans a2 (Nat.le_trans (Nat.mul_le_mul hk (show l.length + 1 ≤ 41 by omega)) (by decide))
  exact ⟨chkS_of a1 (by omega), this⟩
/-! ### without changes of languages -/
def plainV (x : Vi) : Vi := if x.k = 1 then ⟨x.t, x.who, x.k, 0⟩ else x
def plainL (l : List Vi) : List Vi := (l.filter fun x => decide (x.k ≠ 2)).map plainV
def plainS (s : St) : St := s.map fun s => (s.1, 0)
def plainA (a : Aud) : Aud := fun w => plainS (a w)
theorem plainV_k (x : Vi) : (plainV x).k = x.k ∧ (plainV x).t = x.t ∧ (plainV x).who = x.who := by
  unfold plainV; split <;> exact ⟨rfl, rfl, rfl⟩
theorem plainL_cons (x : Vi) (l : List Vi) : plainL (x :: l) = if x.k = 2 then plainL l else plainV x :: plainL l := by
  unfold plainL
  rw [List.filter_cons]
  by_cases h : x.k = 2 <;> simp [h]
theorem plainA_put (a : Aud) (w : Int) (s : St) : plainA (put a w s) = put (plainA a) w (plainS s) := by
  funext j
  unfold plainA put
  split <;> rfl
theorem okV_plain {a : Aud} {x : Vi} (h : okV a x = true) (hk : x.k ≠ 2) : okV (plainA a) (plainV x) = true ∧ perf (plainA a) (plainV x) = plainA (perf a x) := by
  obtain ⟨hf, hm⟩ := may_k h
  obtain ⟨k1, k2, k3⟩ := plainV_k x
  have hf' : formed (plainV x) = true := by
    unfold plainV
    split
    · simp only [formed, Bool.and_eq_true, inB_iff] at hf ⊢
      omega
    · exact hf
  have hm' : may (plainA a (plainV x).who) (plainV x).k (plainV x).g = true ∧ done (plainA a (plainV x).who) (plainV x).k (plainV x).g = plainS (done (a x.who) x.k x.g) := by
    rw [k1, k3]
    unfold plainA plainV
    generalize a x.who = s at *
    rcases formed_k hf with h1 | h1 | h1 | h1
    · rw [if_pos h1]
      rw [h1] at hm ⊢
      rcases s with _ | ⟨o, g⟩
      · exact ⟨rfl, rfl⟩
      · simp [may] at hm
    · exact absurd h1 hk
    · rw [if_neg (by omega)]
      rw [h1] at hm ⊢
      rcases s with _ | ⟨o, g⟩
      · simp [may] at hm
      · cases o
        · simp [may] at hm
        · exact ⟨by simpa [may, plainS] using hm, rfl⟩
    · rw [if_neg (by omega)]
      rw [h1] at hm ⊢
      rcases s with _ | ⟨o, g⟩
      · simp [may] at hm
      · cases o
        · exact ⟨by simpa [may, plainS] using hm, rfl⟩
        · simp [may] at hm
  have hok : okV (plainA a) (plainV x) = true := by unfold okV; rw [hf', hm'.1]; rfl
  refine ⟨hok, ?_⟩
  unfold perf
  rw [if_pos hok, if_pos h, hm'.2, plainA_put, k3]
theorem perf_lang {a : Aud} {x : Vi} (h : okV a x = true) (hk : x.k = 2) : plainA (perf a x) = plainA a := by
  obtain ⟨_, hm⟩ := may_k h
  unfold perf
  rw [if_pos h, plainA_put]
  funext j
  unfold put
  split
  · rename_i hj
    subst hj
    rw [hk] at hm ⊢
    unfold plainA
    generalize a x.who = s at *
    rcases s with _ | ⟨o, g⟩
    · simp [may] at hm
    · rfl
  · rfl
theorem plain_go : ∀ {l : List Vi} {a : Aud} {last last' : Int}, chkGo a last l = true → last' ≤ last → chkGo (plainA a) last' (plainL l) = true ∧ all (plainA a) (plainL l) = plainA (all a l)
  | [], _, _, _, _, _ => ⟨rfl, rfl⟩
  | x :: l, a, last, last', h, hl => by
    simp only [chkGo, Bool.and_eq_true, decide_eq_true_eq] at h
    obtain ⟨⟨h1, h2⟩, h3⟩ := h
    rw [plainL_cons]
    by_cases hk : x.k = 2
    · rw [if_pos hk, ← perf_lang h2 hk]
      exact plain_go h3 (by omega)
    · rw [if_neg hk]
      obtain ⟨p1, p2⟩ := okV_plain h2 hk
      have ht := (plainV_k x).2.1
      obtain ⟨q1, q2⟩ := plain_go (last' := (plainV x).t) h3 (by omega)
      refine ⟨?_, ?_⟩
      · simp only [chkGo, Bool.and_eq_true, decide_eq_true_eq]
        exact ⟨⟨by omega, p1⟩, by rw [p2]; exact q1⟩
      · show all (perf (plainA a) (plainV x)) (plainL l) = plainA (all (perf a x) l)
        rw [p2, q2]
theorem plainL_length (l : List Vi) : (plainL l).length ≤ l.length := by unfold plainL; rw [List.length_map]; exact List.length_filter_le _ _
theorem plainA_nobody : plainA nobody = nobody := rfl
theorem chk_plain {l : List Vi} (h : chk l = 0) : chk (plainL l) = 0 := by
  have := (plain_go (last' := 0) (chk_go h).1 (Int.le_refl _)).1
  rw [plainA_nobody] at this
  exact chk_of this (Nat.le_trans (plainL_length l) (chk_go h).2)
theorem plain_filter (l : List Vi) (t : Int) : (plainL l).filter (fun x => decide (x.t ≤ t)) = plainL (l.filter fun x => decide (x.t ≤ t)) := by
  induction l with
  | nil => rfl
  | cons x l ih =>
    rw [plainL_cons, List.filter_cons]
    have ht := (plainV_k x).2.1
    by_cases hk : x.k = 2
    · rw [if_pos hk, ih]
      split
      · rw [plainL_cons, if_pos hk]
      · rfl
    · rw [if_neg hk, List.filter_cons, ht, ih]
      split
      · rw [plainL_cons, if_neg hk]
      · rfl
/-- online, in the plain visits as in the others -/
theorem plain_sees {l : List Vi} (h : chk l = 0) (w t : Int) : seeAt (plainL l) w 0 t = (seesS (upTo nobody t l w)).2 := by
  have hgo := (chk_go h).1
  have hs := (chkGo_sorted hgo).2
  have hp := (chkGo_sorted (chk_go (chk_plain h)).1).2
  have h1 : upTo nobody t (plainL l) = plainA (upTo nobody t l) := by
    rw [upTo_filter _ _ hp, plain_filter, filter_early t hs, upTo_while]
    have := (plain_go (last' := 0) (chkGo_while t hgo) (Int.le_refl _)).2
    rw [plainA_nobody] at this
    exact this
  unfold seeAt
  rw [h1]
  unfold plainA
  rcases upTo nobody t l w with _ | ⟨o, g⟩
  · rfl
  · cases o <;> simp [plainS, sight, seesS]
theorem unis_online {l : List Vi} (h : chk l = 0) (w : Int) : unis w l 32 = spans w 0 (plainL l) := by
  obtain ⟨a1, _, a3⟩ := unis_good h w 32
  obtain ⟨b1, b2⟩ := spans_is (chk_go (chk_plain h)).1 w 0
  refine good_one _ _ _ _ a1 b1 fun t => ?_
  rw [a3, b2, plain_sees h]
  congr 1
  rw [Bool.eq_iff_iff, decide_eq_true_eq]
  constructor
  · rintro ⟨g, _, hg⟩
    have : seeAt l w g t = ((seesS (upTo nobody t l w)).2 && decide ((seesS (upTo nobody t l w)).1 = (g : Int))) := seesS_sight _ _
    rw [this, Bool.and_eq_true] at hg
    exact hg.1
  · intro ho
    obtain ⟨r1, r2⟩ := own_range ho
    refine ⟨(seesS (upTo nobody t l w)).1.toNat, by omega, ?_⟩
    have : seeAt l w ((seesS (upTo nobody t l w)).1.toNat : Int) t = ((seesS (upTo nobody t l w)).2 && decide ((seesS (upTo nobody t l w)).1 = ((seesS (upTo nobody t l w)).1.toNat : Int))) := seesS_sight _ _
    rw [this, ho, Bool.true_and]
    simp; omega
end Go.Mine.V
