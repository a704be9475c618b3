/-
  Layer 52 (visits), plainly: who has joined, who is online, and in which language; which visits are right.
  Layer 52 (visits), plainly: when a viewer sees a language: the program's spans and the reference's are one list, the list of the times.
  Layer 52 (visits), plainly: who sees a language at a time; one sorted list.
  Layer 52 (visits), plainly: what a viewer sees: the program's answer and the reference's are one.
  Layer 52 (visits), plainly: the states that the iterator yields, and the spans made of them.
  Layer 52 (visits), plainly: own visits, early visits, a further visit.
  Layer 52 (visits), plainly: what a further visit changes.
-/
import Derived.Test.YtchdoamoeccjkaaSPure3
namespace Go.Mine.V
/-- a visit: when, who, what kind, which language -/
structure Vi where
  t : Int
  who : Int
  k : Int
  g : Int
deriving DecidableEq
/-- a viewer: nobody, or (online, language) -/
abbrev St := Option (Bool × Int)
def inB (n lim : Int) : Bool := decide (0 ≤ n) && decide (n < lim)
theorem inB_iff {n lim : Int} : inB n lim = true ↔ 0 ≤ n ∧ n < lim := by simp [inB]
def End : Int := 1099511627776
def formed (x : Vi) : Bool := inB x.t End && inB x.who 100000 && inB (x.k - 1) 4 && inB x.g 32
/-- may a visit be of a viewer in a state (kind and language) -/
def may (v : St) (k g : Int) : Bool :=
  if k = 1 then v.isNone
  else if k = 2 then v.isSome
  else if k = 3 then (match v with | some (true, _) => decide (g = 0) | _ => false)
  else (match v with | some (false, _) => decide (g = 0) | _ => false)
/-- what it makes of the viewer -/
def done (v : St) (k g : Int) : St :=
  if k = 1 then some (true, g)
  else if k = 2 then v.map fun s => (s.1, g)
  else if k = 3 then v.map fun s => (false, s.2)
  else v.map fun s => (true, s.2)
/-- the audience as a function -/
abbrev Aud := Int → St
def put (a : Aud) (w : Int) (s : St) : Aud := fun j => if j = w then s else a j
theorem put_same (a : Aud) (w : Int) (s : St) : put a w s w = s := by simp [put]
theorem put_other (a : Aud) {w j : Int} (s : St) (h : j ≠ w) : put a w s j = a j := by simp [put, h]
def okV (a : Aud) (x : Vi) : Bool := formed x && may (a x.who) x.k x.g
def perf (a : Aud) (x : Vi) : Aud := if okV a x then put a x.who (done (a x.who) x.k x.g) else a
def chkGo (a : Aud) (last : Int) : List Vi → Bool
  | [] => true
  | x :: l => decide (last ≤ x.t) && okV a x && chkGo (perf a x) x.t l
def nobody : Aud := fun _ => none
def chk (l : List Vi) : Int := if 4096 < l.length then 2 else if chkGo nobody 0 l then 0 else 520
/-- all visits up to a time -/
def upTo (a : Aud) (t : Int) : List Vi → Aud
  | [] => a
  | x :: l => if t < x.t then a else upTo (perf a x) t l
def all (a : Aud) (l : List Vi) : Aud := l.foldl perf a
/-- the visits of a right list come in the order of their times -/
theorem chkGo_sorted : ∀ {l : List Vi} {a : Aud} {last : Int}, chkGo a last l = true → (∀ x ∈ l, last ≤ x.t) ∧ l.Pairwise fun x y => x.t ≤ y.t
  | [], _, _, _ => by simp
  | x :: l, a, last, h => by
    simp only [chkGo, Bool.and_eq_true, decide_eq_true_eq] at h
    obtain ⟨⟨h1, h2⟩, h3⟩ := h
    obtain ⟨g1, g2⟩ := chkGo_sorted h3
    refine ⟨fun y hy => ?_, List.pairwise_cons.2 ⟨g1, g2⟩⟩
    rcases List.mem_cons.1 hy with rfl | hy
    · exact h1
    · have := g1 y hy; omega
/-- up to a time: the visits that are not later -/
theorem upTo_filter : ∀ {l : List Vi} (a : Aud) (t : Int), (l.Pairwise fun x y => x.t ≤ y.t) → upTo a t l = all a (l.filter fun x => decide (x.t ≤ t))
  | [], _, _, _ => rfl
  | x :: l, a, t, h => by
    obtain ⟨h1, h2⟩ := List.pairwise_cons.1 h
    unfold upTo
    by_cases hx : t < x.t
    · rw [if_pos hx, List.filter_eq_nil_iff.2 (fun y hy => by
        rcases List.mem_cons.1 hy with rfl | hy
        · simp; omega
        · have := h1 y hy; simp; omega)]
      rfl
    · rw [if_neg hx, List.filter_cons, if_pos (by simp; omega), upTo_filter (perf a x) t h2]
      rfl
theorem perf_other (a : Aud) (x : Vi) {j : Int} (h : j ≠ x.who) : perf a x j = a j := by
  unfold perf
  split
  · exact put_other _ _ h
  · rfl
/-- the visits of others do not matter -/
theorem all_own : ∀ (l : List Vi) (a b : Aud) (w : Int), a w = b w → all a l w = all b (l.filter fun x => decide (x.who = w)) w
  | [], a, b, w, h => h
  | x :: l, a, b, w, h => by
    rw [List.filter_cons]
    by_cases hx : x.who = w
    · rw [if_pos (by simpa using hx)]
      refine all_own l (perf a x) (perf b x) w ?_
      have ho : okV a x = okV b x := by unfold okV; rw [hx, h]
      unfold perf
      rw [ho, hx, h]
      split
      · rw [put_same, put_same]
      · exact h
    · rw [if_neg (by simpa using hx)]
      exact all_own l (perf a x) b w ((perf_other a x (fun e => hx e.symm)).trans h)
/-- the beginning of right visits is right -/
theorem chkGo_take : ∀ {l : List Vi} {a : Aud} {last : Int} (k : Nat), chkGo a last l = true → chkGo a last (l.take k) = true
  | _, _, _, 0, _ => rfl
  | [], _, _, _ + 1, _ => rfl
  | x :: l, a, last, k + 1, h => by
    simp only [chkGo, Bool.and_eq_true, List.take_succ_cons] at h ⊢
    exact ⟨h.1, chkGo_take k h.2⟩
/-! ### the reference's state -/
/-- joined, online, language -/
abbrev Rs := Bool × Bool × Int
def refStep (w : Int) (s : Rs) (x : Vi) : Rs :=
  if x.who = w then
    if x.k = 1 then (true, true, x.g) else if x.k = 2 then (s.1, s.2.1, x.g) else if x.k = 3 then (s.1, false, s.2.2) else if x.k = 4 then (s.1, true, s.2.2) else s
  else s
def refState (l : List Vi) (w : Int) : Rs := l.foldl (refStep w) (false, false, 0)
def toR : St → Rs
  | none => (false, false, 0)
  | some (o, g) => (true, o, g)
theorem refState_snoc (l : List Vi) (x : Vi) (w : Int) : refState (l ++ [x]) w = refStep w (refState l w) x := by simp [refState, List.foldl_append]
theorem formed_k {x : Vi} (h : formed x = true) : x.k = 1 ∨ x.k = 2 ∨ x.k = 3 ∨ x.k = 4 := by
  simp only [formed, Bool.and_eq_true, inB_iff] at h
  omega
/-- a step that is right does to the state what the reference says -/
theorem step_ref {a : Aud} {x : Vi} {l : List Vi} (hok : okV a x = true) (h : ∀ w, refState l w = toR (a w)) (w : Int) : refState (l ++ [x]) w = toR (perf a x w) := by
  rw [refState_snoc, h w]
  unfold perf
  rw [if_pos hok]
  unfold refStep
  by_cases hw : x.who = w
  · rw [if_pos hw, ← hw, put_same]
    simp only [okV, Bool.and_eq_true] at hok
    obtain ⟨hf, hm⟩ := hok
    rcases formed_k hf with hk | hk | hk | hk
    · rw [if_pos hk]; unfold done; rw [if_pos hk]; rfl
    · have k1 : ¬ x.k = 1 := by omega
      unfold may at hm
      rw [if_neg k1, if_pos hk] at hm
      rw [if_neg k1, if_pos hk]
      unfold done
      rw [if_neg k1, if_pos hk]
      cases ha : a x.who with
      | none => rw [ha] at hm; cases hm
      | some s => rfl
    · have k1 : ¬ x.k = 1 := by omega
      have k2 : ¬ x.k = 2 := by omega
      unfold may at hm
      rw [if_neg k1, if_neg k2, if_pos hk] at hm
      rw [if_neg k1, if_neg k2, if_pos hk]
      unfold done
      rw [if_neg k1, if_neg k2, if_pos hk]
      cases ha : a x.who with
      | none => rw [ha] at hm; cases hm
      | some s => rfl
    · have k1 : ¬ x.k = 1 := by omega
      have k2 : ¬ x.k = 2 := by omega
      have k3 : ¬ x.k = 3 := by omega
      unfold may at hm
      rw [if_neg k1, if_neg k2, if_neg k3] at hm
      rw [if_neg k1, if_neg k2, if_neg k3, if_pos hk]
      unfold done
      rw [if_neg k1, if_neg k2, if_neg k3]
      cases ha : a x.who with
      | none => rw [ha] at hm; cases hm
      | some s => rfl
  · rw [if_neg hw, put_other _ _ (fun e => hw e.symm)]
/-- the state behind right visits -/
theorem all_ref : ∀ {l : List Vi} {a : Aud} {last : Int} {pre : List Vi}, chkGo a last l = true → (∀ w, refState pre w = toR (a w)) → ∀ w, refState (pre ++ l) w = toR (all a l w)
  | [], a, _, pre, _, h, w => by simpa [all] using h w
  | x :: l, a, last, pre, hc, h, w => by
    simp only [chkGo, Bool.and_eq_true] at hc
    have := all_ref (pre := pre ++ [x]) hc.2 (step_ref hc.1.2 h) w
    rw [List.append_assoc] at this
    exact this
theorem nobody_ref (w : Int) : refState [] w = toR (nobody w) := rfl
/-- the reference's test of one visit -/
def formedR (x : Vi) : Bool := inB x.t End && inB x.who 100000 && decide (1 ≤ x.k) && decide (x.k ≤ 4) && inB x.g 32 && (decide (x.k = 1) || decide (x.k = 2) || decide (x.g = 0))
def fitsK (s : Rs) (k : Int) : Bool := if k = 1 then !s.1 else if k = 2 then s.1 else if k = 3 then s.2.1 else s.1 && !s.2.1
theorem okV_ref (a : Aud) (x : Vi) : okV a x = (formedR x && fitsK (toR (a x.who)) x.k) := by
  rw [Bool.eq_iff_iff]
  unfold okV formed formedR may fitsK
  cases ha : a x.who with
  | none =>
    simp only [Bool.and_eq_true, Bool.or_eq_true, inB_iff, decide_eq_true_eq, toR]
    by_cases k1 : x.k = 1
    · simp [k1]
    · by_cases k2 : x.k = 2
      · simp [k2]
      · by_cases k3 : x.k = 3
        · simp [k3]
        · simp [k1, k2, k3]
  | some s =>
    obtain ⟨o, g⟩ := s
    simp only [Bool.and_eq_true, Bool.or_eq_true, inB_iff, decide_eq_true_eq, toR]
    by_cases k1 : x.k = 1
    · simp [k1]
    · by_cases k2 : x.k = 2
      · simp [k2]
      · by_cases k3 : x.k = 3
        · cases o <;> simp [k3]
        · cases o
          · simp [k1, k2, k3]
            omega
          · simp [k1, k2, k3]
def lastT : List Vi → Int
  | [] => 0
  | l => (l.getLast?.map fun x => x.t).getD 0
theorem lastT_snoc (l : List Vi) (x : Vi) : lastT (l ++ [x]) = x.t := by
  cases l with
  | nil => rfl
  | cons y l =>
    show ((y :: (l ++ [x])).getLast?.map fun x => x.t).getD 0 = x.t
    rw [← List.cons_append, List.getLast?_append]
    rfl
def fitsR (pre : List Vi) (x : Vi) : Bool := formedR x && !(decide (pre ≠ []) && decide (x.t < lastT pre)) && fitsK (refState pre x.who) x.k
def refGo (pre : List Vi) : List Vi → Bool
  | [] => true
  | x :: l => fitsR pre x && refGo (pre ++ [x]) l
theorem formedR_t {x : Vi} (h : formedR x = true) : 0 ≤ x.t := by
  simp only [formedR, Bool.and_eq_true, inB_iff] at h
  exact h.1.1.1.1.1.1
/-- the two tests are one -/
theorem refGo_eq : ∀ (l pre : List Vi) (a : Aud), (∀ w, refState pre w = toR (a w)) → refGo pre l = chkGo a (lastT pre) l
  | [], _, _, _ => rfl
  | x :: l, pre, a, h => by
    unfold refGo chkGo
    have e1 : fitsR pre x = (decide (lastT pre ≤ x.t) && okV a x) := by
      unfold fitsR
      rw [okV_ref, h]
      cases hf : formedR x
      · simp
      · have h0 := formedR_t hf
        cases pre with
        | nil => simp [lastT, h0]
        | cons y pre =>
          have : (!(decide (y :: pre ≠ []) && decide (x.t < lastT (y :: pre)))) = decide (lastT (y :: pre) ≤ x.t) := by
            rw [Bool.eq_iff_iff]; simp
          rw [this]
          simp
    rw [e1]
    cases hv : decide (lastT pre ≤ x.t) && okV a x
    · rfl
    · rw [Bool.and_eq_true] at hv
      rw [refGo_eq l (pre ++ [x]) (perf a x) (step_ref hv.2 h), lastT_snoc]
theorem refGo_chk (l : List Vi) : refGo [] l = chkGo nobody 0 l := refGo_eq l [] nobody nobody_ref
end Go.Mine.V
namespace Go.Mine.V
open Go.Mine.S (Sp good inL addL add_is good_one good_low good_high)
/-- does a viewer in a state see a language -/
def sight (g : Int) (s : St) : Bool := match s with
  | some (true, h) => decide (h = g)
  | _ => false
/-- does a viewer see a language at a time -/
def seeAt (l : List Vi) (w g t : Int) : Bool := sight g (upTo nobody t l w)
/-- a further piece of time -/
def stepB (b : Bool) (out : List Sp) (a u : Int) : List Sp := if b = true ∧ a < u then addL out (a, u) else out
theorem step_is {b : Bool} {out : List Sp} {a u : Int} (hg : good (-1) out) (h0 : 0 ≤ a) (hl : ∀ z ∈ out, z.2 ≤ a) (hu : a ≤ u) (hE : u ≤ 1099511627776) :
    good (-1) (stepB b out a u) ∧ (∀ z ∈ stepB b out a u, z.2 ≤ u) ∧ ∀ t, inL (stepB b out a u) t = (inL out t || (b && (decide (a ≤ t) && decide (t < u)))) := by
  unfold stepB
  by_cases h : b = true ∧ a < u
  · rw [if_pos h, h.1]
    obtain ⟨p1, p2, p3⟩ := add_is hg h0 hl h.2 hE
    exact ⟨p1, p2, fun t => by rw [p3 t]; rfl⟩
  · rw [if_neg h]
    refine ⟨hg, fun z hz => by have := hl z hz; omega, fun t => ?_⟩
    cases b with
    | false => simp
    | true =>
      have hau : ¬ a < u := fun e => h ⟨rfl, e⟩
      by_cases c : a ≤ t
      · have : ¬ t < u := by omega
        simp [this]
      · simp [c]
theorem in_ends {out : List Sp} {a t : Int} (hl : ∀ z ∈ out, z.2 ≤ a) (h : a ≤ t) : inL out t = false := by
  unfold inL
  rw [List.any_eq_false]
  intro z hz
  have := hl z hz
  simp
  omega
/-! ### the program's spans -/
/-- end a span that has begun (-1: none) -/
def endS (s : List Sp) (fr u : Int) : List Sp := if 0 ≤ fr ∧ fr < u then addL s (fr, u) else s
def frm (b : Bool) (c : Int) : Int := if b = true then c else -1
theorem endS_eq {s : List Sp} {b : Bool} {c u : Int} (hc : 0 ≤ c) : endS s (frm b c) u = stepB b s c u := by
  unfold endS stepB frm
  cases b with
  | false => simp
  | true => simp [hc]
/-- over the viewer's own visits -/
def spGo (w g : Int) : Aud → List Sp → Int → List Vi → List Sp × Int
  | _, s, fr, [] => (s, fr)
  | a, s, fr, x :: l => spGo w g (perf a x) (endS s fr x.t) (frm (sight g (perf a x w)) x.t) l
def spans (w g : Int) (l : List Vi) : List Sp :=
  let r := spGo w g nobody [] (-1) (l.filter fun x => decide (x.who = w))
  endS r.1 r.2 End
theorem spGo_is (w g : Int) : ∀ (l : List Vi) (a : Aud) (s : List Sp) (c : Int), (l.Pairwise fun x y => x.t ≤ y.t) → (∀ x ∈ l, c ≤ x.t ∧ x.t < End) → 0 ≤ c → c < End → good (-1) s → (∀ z ∈ s, z.2 ≤ c) →
    good (-1) (endS (spGo w g a s (frm (sight g (a w)) c) l).1 (spGo w g a s (frm (sight g (a w)) c) l).2 End) ∧
    ∀ t, inL (endS (spGo w g a s (frm (sight g (a w)) c) l).1 (spGo w g a s (frm (sight g (a w)) c) l).2 End) t = if t < c then inL s t else (decide (t < End) && sight g (upTo a t l w))
  | [], a, s, c, _, _, h0, hE, hg, hl => by
    unfold spGo
    dsimp only
    rw [endS_eq h0]
    obtain ⟨p1, _, p3⟩ := step_is (b := sight g (a w)) hg h0 hl (Int.le_of_lt hE) (Int.le_refl _)
    refine ⟨p1, fun t => ?_⟩
    rw [p3 t]
    unfold upTo
    by_cases c1 : t < c
    · have : ¬ c ≤ t := by omega
      simp [c1, this]
    · rw [if_neg c1, in_ends hl (by omega)]
      have : c ≤ t := by omega
      simp [this, Bool.and_comm]
  | x :: l, a, s, c, hs, hb, h0, hE, hg, hl => by
    obtain ⟨s1, s2⟩ := List.pairwise_cons.1 hs
    have hx := hb x (by simp)
    unfold spGo
    rw [endS_eq h0]
    obtain ⟨p1, p2, p3⟩ := step_is (b := sight g (a w)) hg h0 hl hx.1 (Int.le_of_lt hx.2)
    obtain ⟨q1, q2⟩ := spGo_is w g l (perf a x) _ x.t s2 (fun y hy => ⟨s1 y hy, (hb y (by simp [hy])).2⟩) (by omega) hx.2 p1 p2
    refine ⟨q1, fun t => ?_⟩
    rw [q2 t, p3 t]
    conv => rhs; unfold upTo
    by_cases c1 : t < x.t
    · rw [if_pos c1, if_pos c1]
      have e1 : decide (t < End) = true := by simp; omega
      by_cases c2 : t < c
      · have : ¬ c ≤ t := by omega
        simp [c2, this]
      · rw [if_neg c2, in_ends hl (by omega)]
        have : c ≤ t := by omega
        simp [this, c1, e1]
    · have c2 : ¬ t < c := by omega
      rw [if_neg c1, if_neg c1, if_neg c2]
/-- the viewer's state at a time comes of the own visits -/
theorem upTo_own {l : List Vi} (hs : l.Pairwise fun x y => x.t ≤ y.t) (w t : Int) : upTo nobody t (l.filter fun x => decide (x.who = w)) w = upTo nobody t l w := by
  rw [upTo_filter _ _ hs, upTo_filter _ _ (hs.sublist List.filter_sublist), all_own (l.filter fun x => decide (x.t ≤ t)) nobody nobody w rfl, List.filter_filter, List.filter_filter]
  congr 2
  funext x
  exact Bool.and_comm _ _
theorem formed_t {x : Vi} (h : formed x = true) : 0 ≤ x.t ∧ x.t < End := by
  simp only [formed, Bool.and_eq_true, inB_iff] at h
  exact h.1.1.1
theorem chkGo_formed : ∀ {l : List Vi} {a : Aud} {last : Int}, chkGo a last l = true → ∀ x ∈ l, formed x = true
  | [], _, _, _ => by simp
  | x :: l, a, last, h => by
    simp only [chkGo, okV, Bool.and_eq_true, decide_eq_true_eq] at h
    intro y hy
    rcases List.mem_cons.1 hy with rfl | hy
    · exact h.1.2.1
    · exact chkGo_formed h.2 y hy
theorem seeAt_low {l : List Vi} (h : ∀ x ∈ l, 0 ≤ x.t) (w g : Int) {t : Int} (ht : t < 0) : seeAt l w g t = false := by
  unfold seeAt
  cases l with
  | nil => rfl
  | cons x l =>
    have := h x (by simp)
    unfold upTo
    rw [if_pos (by omega)]
    rfl
/-- the program's spans are the times -/
theorem spans_is {l : List Vi} (h : chkGo nobody 0 l = true) (w g : Int) : good (-1) (spans w g l) ∧ ∀ t, inL (spans w g l) t = (decide (t < End) && seeAt l w g t) := by
  obtain ⟨h1, h2⟩ := chkGo_sorted h
  have h3 := chkGo_formed h
  obtain ⟨q1, q2⟩ := spGo_is w g (l.filter fun x => decide (x.who = w)) nobody [] 0 (h2.sublist List.filter_sublist) (fun x hx => ⟨h1 x (List.mem_filter.1 hx).1, (formed_t (h3 x (List.mem_filter.1 hx).1)).2⟩) (Int.le_refl _) (by decide) trivial (by simp)
  refine ⟨q1, fun t => (q2 t).trans ?_⟩
  by_cases c : t < 0
  · rw [if_pos c, seeAt_low (fun x hx => h1 x hx) w g c]; simp [inL]
  · rw [if_neg c, upTo_own h2]; rfl
/-! ### the reference's spans -/
def refSp (f : Int → Bool) (out : List Sp) : List Vi → List Sp
  | [] => out
  | [x] => stepB (f x.t) out x.t End
  | x :: y :: l => refSp f (stepB (f x.t) out x.t y.t) (y :: l)
theorem stepF_is {f : Int → Bool} {out : List Sp} {a u : Int} (hg : good (-1) out) (h0 : 0 ≤ a) (hl : ∀ z ∈ out, z.2 ≤ a) (hu : a ≤ u) (hE : u ≤ 1099511627776) (hi : ∀ t, inL out t = (decide (t < a) && f t)) (hf : ∀ t, a ≤ t → t < u → f t = f a) :
    ∀ t, inL (stepB (f a) out a u) t = (decide (t < u) && f t) := by
  obtain ⟨_, _, p3⟩ := step_is (b := f a) hg h0 hl hu hE
  intro t
  rw [p3 t, hi t]
  by_cases c1 : t < a
  · have c2 : ¬ a ≤ t := by omega
    have c3 : t < u := by omega
    simp [c1, c2, c3]
  · have c2 : a ≤ t := by omega
    by_cases c3 : t < u
    · rw [hf t c2 c3]; simp [c1, c2, c3]
    · simp [c1, c3]
theorem refSp_is {f : Int → Bool} : ∀ (l : List Vi) (x : Vi) (out : List Sp), ((x :: l).Pairwise fun x y => x.t ≤ y.t) → (∀ y ∈ x :: l, 0 ≤ y.t ∧ y.t < End) → (∀ a t, x.t ≤ a → a ≤ t → (∀ y ∈ x :: l, y.t ≤ a ∨ t < y.t) → f t = f a) →
    good (-1) out → (∀ z ∈ out, z.2 ≤ x.t) → (∀ t, inL out t = (decide (t < x.t) && f t)) → good (-1) (refSp f out (x :: l)) ∧ ∀ t, inL (refSp f out (x :: l)) t = (decide (t < End) && f t)
  | [], x, out, _, hb, hf, hg, hl, hi => by
    unfold refSp
    have hx := hb x (by simp)
    obtain ⟨p1, _, _⟩ := step_is (b := f x.t) hg hx.1 hl (Int.le_of_lt hx.2) (Int.le_refl _)
    exact ⟨p1, stepF_is hg hx.1 hl (Int.le_of_lt hx.2) (Int.le_refl _) hi (fun t h1 _ => hf x.t t (Int.le_refl _) h1 (by simp))⟩
  | y :: l, x, out, hs, hb, hf, hg, hl, hi => by
    unfold refSp
    have hx := hb x (by simp)
    have hy := hb y (by simp)
    obtain ⟨s1, s2⟩ := List.pairwise_cons.1 hs
    have hxy := s1 y (by simp)
    obtain ⟨p1, p2, _⟩ := step_is (b := f x.t) hg hx.1 hl hxy (Int.le_of_lt hy.2)
    refine refSp_is l y _ s2 (fun z hz => hb z (by simp [List.mem_cons.1 hz])) (fun a t h1 h2 h3 => hf a t (by omega) h2 fun z hz => ?_) p1 p2 (stepF_is hg hx.1 hl hxy (Int.le_of_lt hy.2) hi (fun t h1 h2 => hf x.t t (Int.le_refl _) h1 fun z hz => ?_))
    · rcases List.mem_cons.1 hz with rfl | hz
      · left; omega
      · exact h3 z hz
    · rcases List.mem_cons.1 hz with rfl | hz
      · left; omega
      · right
        rcases List.mem_cons.1 hz with rfl | hz
        · exact h2
        · have := (List.pairwise_cons.1 s2).1 z hz; omega
theorem seeAt_const {l : List Vi} (hs : l.Pairwise fun x y => x.t ≤ y.t) (w g : Int) {a t : Int} (hat : a ≤ t) (h : ∀ y ∈ l, y.t ≤ a ∨ t < y.t) : seeAt l w g t = seeAt l w g a := by
  unfold seeAt
  rw [upTo_filter _ _ hs, upTo_filter _ _ hs]
  rw [show (l.filter fun x => decide (x.t ≤ t)) = l.filter fun x => decide (x.t ≤ a) from List.filter_congr fun y hy => ?_]
  rcases h y hy with h | h
  · have : y.t ≤ t := by omega
    simp [h, this]
  · have h1 : ¬ y.t ≤ t := by omega
    have h2 : ¬ y.t ≤ a := by omega
    simp [h1, h2]
theorem refSp_times {l : List Vi} (h : chkGo nobody 0 l = true) (w g : Int) : good (-1) (refSp (seeAt l w g) [] l) ∧ ∀ t, inL (refSp (seeAt l w g) [] l) t = (decide (t < End) && seeAt l w g t) := by
  obtain ⟨h1, h2⟩ := chkGo_sorted h
  have h3 := chkGo_formed h
  cases hl : l with
  | nil => exact ⟨trivial, fun t => by simp [refSp, inL, seeAt, upTo, nobody, sight]⟩
  | cons x r =>
    rw [← hl]
    have := refSp_is (f := seeAt l w g) r x [] (hl ▸ h2) (hl ▸ fun y hy => formed_t (h3 y hy)) (fun a t _ b c => seeAt_const h2 w g b (hl ▸ c)) trivial (by simp) (fun t => ?_)
    · rw [← hl] at this; exact this
    · by_cases c : t < x.t
      · have : seeAt l w g t = false := by
          unfold seeAt; rw [hl]; unfold upTo; rw [if_pos c]; rfl
        simp [inL, this]
      · simp [inL, c]
/-- one list -/
theorem spans_ref {l : List Vi} (h : chkGo nobody 0 l = true) (w g : Int) : spans w g l = refSp (seeAt l w g) [] l := by
  obtain ⟨a1, a2⟩ := spans_is h w g
  obtain ⟨b1, b2⟩ := refSp_times h w g
  exact good_one _ _ _ _ a1 b1 fun t => (a2 t).trans (b2 t).symm
end Go.Mine.V
namespace Go.Mine.V
/-- a number into its place, unless it is there -/
def putI : List Int → Int → List Int
  | [], n => [n]
  | y :: l, n => if y < n then y :: putI l n else if y = n then y :: l else n :: y :: l
theorem putI_mem : ∀ (l : List Int) (n m : Int), m ∈ putI l n ↔ m = n ∨ m ∈ l
  | [], n, m => by simp [putI]
  | y :: l, n, m => by
    unfold putI
    split
    · rw [List.mem_cons, putI_mem l n m, List.mem_cons]
      constructor
      · rintro (h | h | h)
        · exact .inr (.inl h)
        · exact .inl h
        · exact .inr (.inr h)
      · rintro (h | h | h)
        · exact .inr (.inl h)
        · exact .inl h
        · exact .inr (.inr h)
    · split
      · rename_i h; subst h; simp
      · simp
theorem putI_sorted : ∀ (l : List Int) (n : Int), l.Pairwise (· < ·) → (putI l n).Pairwise (· < ·)
  | [], n, _ => by simp [putI]
  | y :: l, n, h => by
    obtain ⟨h1, h2⟩ := List.pairwise_cons.1 h
    unfold putI
    split
    · rename_i c
      refine List.pairwise_cons.2 ⟨fun z hz => ?_, putI_sorted l n h2⟩
      rcases (putI_mem l n z).1 hz with rfl | hz
      · exact c
      · exact h1 z hz
    · split
      · exact h
      · refine List.pairwise_cons.2 ⟨fun z hz => ?_, h⟩
        rcases List.mem_cons.1 hz with rfl | hz
        · omega
        · have := h1 z hz; omega
/-- sorted lists of the same numbers are one -/
theorem sorted_one : ∀ (a b : List Int), a.Pairwise (· < ·) → b.Pairwise (· < ·) → (∀ n, n ∈ a ↔ n ∈ b) → a = b
  | [], [], _, _, _ => rfl
  | [], y :: s, _, _, h => by have := (h y).2 (by simp); cases this
  | x :: r, [], _, _, h => by have := (h x).1 (by simp); cases this
  | x :: r, y :: s, ha, hb, h => by
    obtain ⟨a1, a2⟩ := List.pairwise_cons.1 ha
    obtain ⟨b1, b2⟩ := List.pairwise_cons.1 hb
    have e : x = y := by
      have h1 := (h x).1 (by simp)
      have h2 := (h y).2 (by simp)
      rcases List.mem_cons.1 h1 with h1 | h1
      · exact h1
      · rcases List.mem_cons.1 h2 with h2 | h2
        · exact h2.symm
        · have := b1 x h1; have := a1 y h2; omega
    subst e
    congr 1
    refine sorted_one r s a2 b2 fun n => ?_
    constructor
    · intro hn
      have := (h n).1 (by simp [hn])
      rcases List.mem_cons.1 this with rfl | h'
      · have := a1 _ hn; omega
      · exact h'
    · intro hn
      have := (h n).2 (by simp [hn])
      rcases List.mem_cons.1 this with rfl | h'
      · have := b1 _ hn; omega
      · exact h'
/-- the reference's list -/
def presGo (f : Int → Bool) (out : List Int) : List Vi → List Int
  | [] => out
  | x :: l => presGo f (if f x.who = true then putI out x.who else out) l
theorem presGo_is (f : Int → Bool) : ∀ (l : List Vi) (out : List Int), out.Pairwise (· < ·) → (presGo f out l).Pairwise (· < ·) ∧ ∀ n, n ∈ presGo f out l ↔ n ∈ out ∨ (f n = true ∧ ∃ x ∈ l, x.who = n)
  | [], out, h => ⟨h, by simp [presGo]⟩
  | x :: l, out, h => by
    unfold presGo
    by_cases c : f x.who = true
    · rw [if_pos c]
      obtain ⟨p1, p2⟩ := presGo_is f l (putI out x.who) (putI_sorted out x.who h)
      refine ⟨p1, fun n => (p2 n).trans ?_⟩
      rw [putI_mem]
      constructor
      · rintro ((rfl | h) | ⟨h1, y, hy, h2⟩)
        · exact .inr ⟨c, x, by simp, rfl⟩
        · exact .inl h
        · exact .inr ⟨h1, y, by simp [hy], h2⟩
      · rintro (h | ⟨h1, y, hy, h2⟩)
        · exact .inl (.inr h)
        · rcases List.mem_cons.1 hy with rfl | hy
          · exact .inl (.inl h2.symm)
          · exact .inr ⟨h1, y, hy, h2⟩
    · rw [if_neg c]
      obtain ⟨p1, p2⟩ := presGo_is f l out h
      refine ⟨p1, fun n => (p2 n).trans ?_⟩
      constructor
      · rintro (h | ⟨h1, y, hy, h2⟩)
        · exact .inl h
        · exact .inr ⟨h1, y, by simp [hy], h2⟩
      · rintro (h | ⟨h1, y, hy, h2⟩)
        · exact .inl h
        · rcases List.mem_cons.1 hy with rfl | hy
          · exact absurd (h2 ▸ h1) c
          · exact .inr ⟨h1, y, hy, h2⟩
theorem upTo_none : ∀ (l : List Vi) (a : Aud) (t w : Int), (∀ x ∈ l, x.who ≠ w) → upTo a t l w = a w
  | [], _, _, _, _ => rfl
  | x :: l, a, t, w, h => by
    unfold upTo
    split
    · rfl
    · rw [upTo_none l (perf a x) t w (fun y hy => h y (by simp [hy])), perf_other]
      exact fun e => h x (by simp) e.symm
theorem seeAt_mem {l : List Vi} {w g t : Int} (h : seeAt l w g t = true) : ∃ x ∈ l, x.who = w := by
  apply Classical.byContradiction
  intro hn
  unfold seeAt at h
  rw [upTo_none l nobody t w (fun x hx e => hn ⟨x, hx, e⟩)] at h
  cases h
/-- who sees a language at a time -/
def pres (l : List Vi) (g t : Int) : List Int := presGo (fun w => seeAt l w g t) [] l
theorem pres_is (l : List Vi) (g t : Int) : (pres l g t).Pairwise (· < ·) ∧ ∀ n, n ∈ pres l g t ↔ seeAt l n g t = true := by
  obtain ⟨p1, p2⟩ := presGo_is (fun w => seeAt l w g t) l [] List.Pairwise.nil
  refine ⟨p1, fun n => (p2 n).trans ?_⟩
  constructor
  · rintro (h | h)
    · cases h
    · exact h.1
  · exact fun h => .inr ⟨h, seeAt_mem h⟩
/-- any sorted list of those who see it -/
theorem pres_one {l : List Vi} {g t : Int} {p : List Int} (h : p.Pairwise (· < ·)) (hm : ∀ n, n ∈ p ↔ seeAt l n g t = true) : p = pres l g t := by
  obtain ⟨p1, p2⟩ := pres_is l g t
  exact sorted_one _ _ h p1 fun n => (hm n).trans (p2 n).symm
end Go.Mine.V
namespace Go.Mine.V
def vEarly (t : Int) (l : List Vi) : List Vi := l.takeWhile fun x => decide (x.t ≤ t)
theorem upTo_while : ∀ (l : List Vi) (a : Aud) (t : Int), upTo a t l = all a (vEarly t l)
  | [], _, _ => rfl
  | x :: l, a, t => by
    unfold upTo vEarly
    rw [List.takeWhile_cons]
    by_cases h : t < x.t
    · rw [if_pos h, if_neg (by simp; omega)]; rfl
    · rw [if_neg h, if_pos (by simp; omega)]; exact upTo_while l (perf a x) t
theorem chkGo_while : ∀ {l : List Vi} {a : Aud} {last : Int} (t : Int), chkGo a last l = true → chkGo a last (vEarly t l) = true
  | [], _, _, _, _ => rfl
  | x :: l, a, last, t, h => by
    unfold vEarly
    rw [List.takeWhile_cons]
    split
    · simp only [chkGo, Bool.and_eq_true] at h ⊢
      exact ⟨h.1, chkGo_while t h.2⟩
    · rfl
theorem vEarly_ref {l : List Vi} (h : chkGo nobody 0 l = true) (t w : Int) : refState (vEarly t l) w = toR (upTo nobody t l w) := by
  rw [upTo_while]
  have := all_ref (pre := []) (chkGo_while t h) nobody_ref w
  simpa using this
/-- what is seen in a state -/
def seesS : St → Int × Bool
  | some (true, g) => (g, true)
  | _ => (0, false)
def seesR (s : Rs) : Int × Bool := if s.2.1 = true then (s.2.2, true) else (0, false)
theorem seesR_toR (s : St) : seesR (toR s) = seesS s := by
  rcases s with _ | ⟨o, g⟩
  · rfl
  · cases o <;> rfl
theorem seesS_sight (s : St) (g : Int) : sight g s = ((seesS s).2 && decide ((seesS s).1 = g)) := by
  rcases s with _ | ⟨o, h⟩
  · rfl
  · cases o
    · rfl
    · show decide (h = g) = (true && decide (h = g)); rw [Bool.true_and]
def argST (who t : Int) : Bool := inB who 100000 && inB t 1099511627776
def seesG (l : List Vi) (who t : Int) : Int := if chk l = 0 ∧ argST who t = true then (seesS (upTo nobody t l who)).1 else 0
def seesO (l : List Vi) (who t : Int) : Bool := if chk l = 0 ∧ argST who t = true then (seesS (upTo nobody t l who)).2 else false
def seesE (l : List Vi) (who t : Int) : Int := if chk l = 0 then (if argST who t = true then 0 else 1) else chk l
theorem chk_go {l : List Vi} (h : chk l = 0) : chkGo nobody 0 l = true ∧ l.length ≤ 4096 := by
  unfold chk at h
  split at h
  · cases h
  · split at h
    · exact ⟨by assumption, by omega⟩
    · cases h
end Go.Mine.V
namespace Go.Mine.V
open Go.Mine.S (Sp)
def own (w : Int) (l : List Vi) : List Vi := l.filter fun x => decide (x.who = w)
theorem own_cons (w : Int) (x : Vi) (l : List Vi) : own w (x :: l) = if x.who = w then x :: own w l else own w l := by
  unfold own; rw [List.filter_cons]; by_cases h : x.who = w <;> simp [h]
theorem own_nil (w : Int) : own w [] = [] := rfl
/-- when, and what there is then -/
def stL (w : Int) : Aud → List Vi → List (Int × St)
  | _, [] => []
  | a, x :: l => (x.t, perf a x w) :: stL w (perf a x) l
theorem stL_length (w : Int) : ∀ (l : List Vi) (a : Aud), (stL w a l).length = l.length
  | [], _ => rfl
  | x :: l, a => by simp [stL, stL_length w l]
def stepS (g : Int) (r : List Sp × Int) (s : Int × St) : List Sp × Int := (endS r.1 r.2 s.1, frm (sight g s.2) s.1)
theorem spGo_fold (w g : Int) : ∀ (l : List Vi) (a : Aud) (s : List Sp) (fr : Int), spGo w g a s fr l = (stL w a l).foldl (stepS g) (s, fr)
  | [], _, _, _ => rfl
  | x :: l, a, s, fr => by
    unfold spGo stL
    rw [List.foldl_cons, spGo_fold w g l]
    rfl
theorem spans_fold (w g : Int) (l : List Vi) : spans w g l = endS ((stL w nobody (own w l)).foldl (stepS g) ([], -1)).1 ((stL w nobody (own w l)).foldl (stepS g) ([], -1)).2 End := by
  unfold spans
  rw [spGo_fold]
  rfl
theorem endS_length (s : List Sp) (fr u : Int) : (endS s fr u).length ≤ s.length + 1 := by
  unfold endS
  split
  · unfold Go.Mine.S.addL
    split
    · split
      · simp
      · simp
    · simp
  · omega
theorem foldS_length (g : Int) : ∀ (xs : List (Int × St)) (r : List Sp × Int), (xs.foldl (stepS g) r).1.length ≤ r.1.length + xs.length
  | [], r => by simp
  | x :: xs, r => by
    rw [List.foldl_cons]
    have h1 := foldS_length g xs (stepS g r x)
    have h2 := endS_length r.1 r.2 x.1
    have h3 : (stepS g r x).1.length = (endS r.1 r.2 x.1).length := rfl
    simp; omega
theorem foldS_snoc (g : Int) (xs : List (Int × St)) (x : Int × St) (r : List Sp × Int) : (xs ++ [x]).foldl (stepS g) r = stepS g (xs.foldl (stepS g) r) x := by
  rw [List.foldl_append]; rfl
theorem own_length (w : Int) (l : List Vi) : (own w l).length ≤ l.length := List.length_filter_le _ _
end Go.Mine.V
namespace Go.Mine.V
open Go.Mine.S (Sp)
theorem chk_of {l : List Vi} (h : chkGo nobody 0 l = true) (hl : l.length ≤ 4096) : chk l = 0 := by
  unfold chk; rw [if_neg (by omega), if_pos h]
theorem filter_early : ∀ {l : List Vi} (t : Int), (l.Pairwise fun x y => x.t ≤ y.t) → l.filter (fun x => decide (x.t ≤ t)) = vEarly t l
  | [], _, _ => rfl
  | x :: l, t, h => by
    obtain ⟨h1, h2⟩ := List.pairwise_cons.1 h
    unfold vEarly
    rw [List.filter_cons, List.takeWhile_cons]
    by_cases c : x.t ≤ t
    · rw [if_pos (by simpa using c), if_pos (by simpa using c)]
      congr 1
      exact filter_early t h2
    · rw [if_neg (by simpa using c), if_neg (by simpa using c), List.filter_eq_nil_iff.2]
      intro y hy
      have := h1 y hy
      simp; omega
theorem early_early (t : Int) : ∀ l : List Vi, vEarly t (vEarly t l) = vEarly t l
  | [] => rfl
  | x :: l => by
    unfold vEarly
    rw [List.takeWhile_cons]
    split
    · rename_i h
      rw [List.takeWhile_cons, if_pos h]
      congr 1
      exact early_early t l
    · rfl
theorem chkGo_own (w : Int) : ∀ {l : List Vi} {a b : Aud} {last last' : Int}, chkGo a last l = true → a w = b w → last' ≤ last → chkGo b last' (own w l) = true
  | [], _, _, _, _, _, _, _ => rfl
  | x :: l, a, b, last, last', h, hab, hl => by
    simp only [chkGo, Bool.and_eq_true, decide_eq_true_eq] at h
    obtain ⟨⟨h1, h2⟩, h3⟩ := h
    rw [own_cons]
    by_cases hw : x.who = w
    · rw [if_pos hw]
      have ho : okV a x = okV b x := by unfold okV; rw [hw, hab]
      simp only [chkGo, Bool.and_eq_true, decide_eq_true_eq]
      refine ⟨⟨by omega, by rw [← ho]; exact h2⟩, chkGo_own w h3 ?_ (Int.le_refl _)⟩
      unfold perf
      rw [← ho, h2, hw, hab]
      simp [put_same]
    · rw [if_neg hw]
      exact chkGo_own w h3 ((perf_other a x (fun e => hw e.symm)).trans hab) (by omega)
theorem own_own (w : Int) (l : List Vi) : own w (own w l) = own w l := by unfold own; rw [List.filter_filter]; simp
section
variable {l : List Vi}
theorem chk_own (h : chk l = 0) (w : Int) : chk (own w l) = 0 :=
  chk_of (chkGo_own w (chk_go h).1 rfl (Int.le_refl _)) (Nat.le_trans (own_length _ _) (chk_go h).2)
theorem chk_early (h : chk l = 0) (t : Int) : chk (vEarly t l) = 0 :=
  chk_of (chkGo_while t (chk_go h).1) (Nat.le_trans (List.takeWhile_prefix _).length_le (chk_go h).2)
theorem chk_take (h : chk l = 0) (k : Nat) : chk (l.take k) = 0 :=
  chk_of (chkGo_take k (chk_go h).1) (Nat.le_trans (List.length_take_le' _ _) (chk_go h).2)
theorem upTo_early (l : List Vi) (t : Int) : upTo nobody t (vEarly t l) = upTo nobody t l := by
  rw [upTo_while, upTo_while, early_early]
theorem sees_early (h : chk l = 0) (who t : Int) : seesG (vEarly t l) who t = seesG l who t ∧ seesO (vEarly t l) who t = seesO l who t ∧ seesE (vEarly t l) who t = seesE l who t := by
  unfold seesG seesO seesE
  rw [chk_early h, h, upTo_early]
  exact ⟨rfl, rfl, rfl⟩
theorem sees_own (h : chk l = 0) (who t : Int) : seesG (own who l) who t = seesG l who t ∧ seesO (own who l) who t = seesO l who t ∧ seesE (own who l) who t = seesE l who t := by
  have e : upTo nobody t (own who l) who = upTo nobody t l who := upTo_own (chkGo_sorted (chk_go h).1).2 who t
  unfold seesG seesO seesE
  rw [chk_own h, h, e]
  exact ⟨rfl, rfl, rfl⟩
theorem spans_own (l : List Vi) (who lang : Int) : spans who lang (own who l) = spans who lang l := by
  rw [spans_fold, spans_fold, own_own]
theorem pres_early (l : List Vi) (lang t : Int) : pres (vEarly t l) lang t = pres l lang t := by
  obtain ⟨p1, p2⟩ := pres_is (vEarly t l) lang t
  refine pres_one p1 fun n => (p2 n).trans ?_
  unfold seeAt
  rw [upTo_early]
end
/-! ### a further visit -/
theorem chk_two {l : List Vi} (h : l.length ≤ 4096) : chk l = 0 ∨ chk l = 520 := by
  unfold chk; rw [if_neg (by omega)]; split
  · exact .inl rfl
  · exact .inr rfl
theorem chkGo_append : ∀ {l : List Vi} {a : Aud} {last : Int} {x : Vi}, chkGo a last (l ++ [x]) = true → (∀ y ∈ l, y.t ≤ x.t) ∧ okV (all a l) x = true
  | [], a, last, x, h => by
    simp only [List.nil_append, chkGo, Bool.and_eq_true] at h
    exact ⟨by simp, h.1.2⟩
  | y :: l, a, last, x, h => by
    simp only [List.cons_append, chkGo, Bool.and_eq_true] at h
    obtain ⟨h1, h2⟩ := chkGo_append h.2
    refine ⟨fun z hz => ?_, h2⟩
    rcases List.mem_cons.1 hz with rfl | hz
    · have := (chkGo_sorted h.2).1 x (by simp)
      exact this
    · exact h1 z hz
theorem upTo_all : ∀ {l : List Vi} {a : Aud} {t : Int}, (∀ y ∈ l, y.t ≤ t) → upTo a t l = all a l
  | [], _, _, _ => rfl
  | y :: l, a, t, h => by
    unfold upTo
    have := h y (by simp)
    rw [if_neg (by omega)]
    exact upTo_all fun z hz => h z (by simp [hz])
theorem all_snoc (a : Aud) (l : List Vi) (x : Vi) : all a (l ++ [x]) = perf (all a l) x := by simp [all, List.foldl_append]
/-- what is seen before and after a further visit -/
theorem do_states {l : List Vi} {x : Vi} (h : chk (l ++ [x]) = 0) : okV (all nobody l) x = true ∧ upTo nobody x.t l = all nobody l ∧ upTo nobody x.t (l ++ [x]) = perf (all nobody l) x := by
  obtain ⟨h1, h2⟩ := chkGo_append (chk_go h).1
  refine ⟨h2, upTo_all h1, ?_⟩
  rw [upTo_all, all_snoc]
  intro y hy
  rcases List.mem_append.1 hy with hy | hy
  · exact h1 y hy
  · simp at hy; subst hy; exact Int.le_refl _
theorem do_kinds {s : St} {k g : Int} (h : may s k g = true) (hk : k = 1 ∨ k = 2 ∨ k = 3 ∨ k = 4) :
    (k = 1 ∧ (seesS s).2 = false ∧ seesS (done s k g) = (g, true)) ∨
    (k = 2 ∧ (seesS (done s k g)).2 = (seesS s).2 ∧ ((seesS (done s k g)).2 = true → (seesS (done s k g)).1 = g)) ∨
    (k = 3 ∧ (seesS s).2 = true ∧ (seesS (done s k g)).2 = false) ∨ (k = 4 ∧ (seesS s).2 = false ∧ (seesS (done s k g)).2 = true) := by
  rcases hk with rfl | rfl | rfl | rfl
  · left
    rcases s with _ | ⟨o, L⟩
    · exact ⟨rfl, rfl, rfl⟩
    · simp [may] at h
  · right; left
    rcases s with _ | ⟨o, L⟩
    · simp [may] at h
    · cases o <;> simp [done, seesS]
  · right; right; left
    rcases s with _ | ⟨o, L⟩
    · simp [may] at h
    · cases o
      · simp [may] at h
      · simp [done, seesS]
  · right; right; right
    rcases s with _ | ⟨o, L⟩
    · simp [may] at h
    · cases o
      · simp [done, seesS]
      · simp [may] at h
/-! ### the languages that are seen -/
theorem upTo_lang : ∀ (l : List Vi) (a : Aud) (t : Int), (∀ w o g, a w = some (o, g) → inB g 32 = true) → ∀ w o g, upTo a t l w = some (o, g) → inB g 32 = true
  | [], _, _, h => h
  | x :: l, a, t, h => by
    unfold upTo
    split
    · exact h
    · refine upTo_lang l (perf a x) t ?_
      intro w o g hw
      unfold perf at hw
      split at hw
      · rename_i hok
        by_cases hxw : w = x.who
        · subst hxw
          rw [put_same] at hw
          have hf : inB x.g 32 = true := by
            simp only [okV, formed, Bool.and_eq_true] at hok
            exact hok.1.2
          unfold done at hw
          split at hw
          · cases hw; exact hf
          · split at hw
            · rcases hx : a x.who with _ | ⟨o', g'⟩
              · rw [hx] at hw; cases hw
              · rw [hx] at hw; cases hw; exact hf
            · split at hw
              · rcases hx : a x.who with _ | ⟨o', g'⟩
                · rw [hx] at hw; cases hw
                · rw [hx] at hw; cases hw; exact h _ _ _ hx
              · rcases hx : a x.who with _ | ⟨o', g'⟩
                · rw [hx] at hw; cases hw
                · rw [hx] at hw; cases hw; exact h _ _ _ hx
        · rw [put_other _ _ hxw] at hw
          exact h _ _ _ hw
      · exact h _ _ _ hw
end Go.Mine.V
namespace Go.Mine.V
theorem may_k {a : Aud} {x : Vi} (h : okV a x = true) : formed x = true ∧ may (a x.who) x.k x.g = true := by
  simpa [okV] using h
theorem do_facts {l : List Vi} {x : Vi} (hz : chk l = 0) (hm : chk (l ++ [x]) = 0) :
    seesE l x.who x.t = 0 ∧ seesE (l ++ [x]) x.who x.t = 0 ∧
    ((x.k = 1 ∧ seesO l x.who x.t = false ∧ seesO (l ++ [x]) x.who x.t = true ∧ seesG (l ++ [x]) x.who x.t = x.g) ∨
     (x.k = 2 ∧ seesO (l ++ [x]) x.who x.t = seesO l x.who x.t ∧ (seesO (l ++ [x]) x.who x.t = true → seesG (l ++ [x]) x.who x.t = x.g)) ∨
     (x.k = 3 ∧ seesO l x.who x.t = true ∧ seesO (l ++ [x]) x.who x.t = false) ∨ (x.k = 4 ∧ seesO l x.who x.t = false ∧ seesO (l ++ [x]) x.who x.t = true)) := by
  obtain ⟨h1, h2, h3⟩ := do_states hm
  obtain ⟨hf, hmay⟩ := may_k h1
  have ha : argST x.who x.t = true := by
    simp only [formed, Bool.and_eq_true] at hf
    unfold argST
    rw [hf.1.1.2, show inB x.t 1099511627776 = true from hf.1.1.1]; rfl
  have hp : perf (all nobody l) x x.who = done (all nobody l x.who) x.k x.g := by
    unfold perf; rw [if_pos h1, put_same]
  have e1 : seesE l x.who x.t = 0 := by unfold seesE; rw [if_pos hz, if_pos ha]
  have e2 : seesE (l ++ [x]) x.who x.t = 0 := by unfold seesE; rw [if_pos hm, if_pos ha]
  have o1 : seesO l x.who x.t = (seesS (all nobody l x.who)).2 := by unfold seesO; rw [if_pos ⟨hz, ha⟩, h2]
  have o2 : seesO (l ++ [x]) x.who x.t = (seesS (done (all nobody l x.who) x.k x.g)).2 := by unfold seesO; rw [if_pos ⟨hm, ha⟩, h3, hp]
  have g2 : seesG (l ++ [x]) x.who x.t = (seesS (done (all nobody l x.who) x.k x.g)).1 := by unfold seesG; rw [if_pos ⟨hm, ha⟩, h3, hp]
  refine ⟨e1, e2, ?_⟩
  rw [o1, o2, g2]
  rcases do_kinds hmay (formed_k hf) with ⟨k, p, q⟩ | ⟨k, p, q⟩ | ⟨k, p, q⟩ | ⟨k, p, q⟩
  · exact .inl ⟨k, p, by rw [q], by rw [q]⟩
  · exact .inr (.inl ⟨k, p, q⟩)
  · exact .inr (.inr (.inl ⟨k, p, q⟩))
  · exact .inr (.inr (.inr ⟨k, p, q⟩))
theorem do_other {l : List Vi} {x : Vi} (hz : chk l = 0) (hm : chk (l ++ [x]) = 0) {w : Int} (hw : w ≠ x.who) :
    seesG (l ++ [x]) w x.t = seesG l w x.t ∧ seesO (l ++ [x]) w x.t = seesO l w x.t ∧ seesE (l ++ [x]) w x.t = seesE l w x.t := by
  obtain ⟨h1, h2, h3⟩ := do_states hm
  have hp : perf (all nobody l) x w = all nobody l w := perf_other _ _ hw
  unfold seesG seesO seesE
  rw [hz, hm, h2, h3, hp]
  exact ⟨rfl, rfl, rfl⟩
end Go.Mine.V
