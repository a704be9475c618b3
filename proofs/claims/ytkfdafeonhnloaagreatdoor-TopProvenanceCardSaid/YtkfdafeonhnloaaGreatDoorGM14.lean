/-
  The words of a translation carry the source words on which they depend: each source word is among them.
  chart.find, plainly: the ways to lay parts on words; what is found for a goal.
  chart.find, plainly: what is found is a derivation.
  chart.find, plainly: how deep one looks doesn't matter, once it is deep enough.
  chart.find, plainly: what a goal's derivations are made of; goals get smaller.
  How many words a derivation gives.
  Translate, where no derivation of the whole is found: the longest phrase at each place.
  One source word is replaced: the words of the translation that don't depend on it are the same.
  Layer 31 (provenance), plainly: increasing lists, relations, what they reach; the laws.
-/
import Derived.Test.YtkfdafeonhnloaaGreatDoorGM1
namespace Go.Mine.C
variable {rules : List RuleM} {items : List ItemM}
theorem WF.until_ {n : Nat} {t : Tree} {cat f u : Int} (h : WF rules items n t cat f u) : litsGo.untilT t = u := by
 cases h <;> rfl
structure CovP (rules : List RuleM) (items : List ItemM) (n : Nat) (ps : List PartM) (ks : List Tree) (f u : Int) : Prop where
 le : f ≤ u
 lits : ∀ x ∈ litsGo ps ks f, f ≤ x ∧ x < u
 part : ∀ (j : Nat) (p : PartM), ps[j]? = some p → p.isCat = true → ∃ k f' u', kidAt ps ks j = some k ∧ WF rules items n k p.catNo f' u' ∧ f ≤ f' ∧ u' ≤ u
 place : ∀ x, f ≤ x → x < u → x ∈ litsGo ps ks f ∨ ∃ (j : Nat) (p : PartM) (k : Tree) (f' u' : Int), ps[j]? = some p ∧ p.isCat = true ∧ kidAt ps ks j = some k ∧ WF rules items n k p.catNo f' u' ∧ f' ≤ x ∧ x < u'
theorem kidAt_text {p : PartM} (hp : p.isCat = false) (ps : List PartM) (ks : List Tree) (j : Nat) : kidAt (p :: ps) ks (j + 1) = kidAt ps ks j := by
 unfold kidAt
 rw [List.take_succ_cons, List.countP_cons_of_neg (by simp [hp])]
theorem kidAt_cat {p : PartM} (hp : p.isCat = true) (ps : List PartM) (k : Tree) (ks : List Tree) (j : Nat) : kidAt (p :: ps) (k :: ks) (j + 1) = kidAt ps ks j := by
 unfold kidAt
 rw [List.take_succ_cons, List.countP_cons_of_pos hp, List.getElem?_cons_succ]
theorem Cov.facts {n : Nat} (hlt : ∀ {t : Tree} {cat f u : Int}, WF rules items n t cat f u → f < u) : ∀ {ps : List PartM} {ks : List Tree} {f u : Int}, Cov rules items n ps ks f u → CovP rules items n ps ks f u
 | [], ks, f, u, h => by
  cases h
  exact ⟨Int.le_refl _, by simp [litsGo], by simp, fun x h1 h2 => by omega⟩
 | p :: ps, ks, f, u, h => by
  cases h with
  | text hp h =>
   have ih := Cov.facts hlt h
   have e : litsGo (p :: ps) ks f = f :: litsGo ps ks (f + 1) := by simp [litsGo, hp]
   refine ⟨by have := ih.le; omega, fun x hx => ?_, fun j q hq hc => ?_, fun x h1 h2 => ?_⟩
   ·rw [e] at hx
    rcases List.mem_cons.1 hx with rfl | hx
    ·have := ih.le; omega
    ·have := ih.lits x hx; omega
   ·cases j with
    | zero =>
     simp only [List.getElem?_cons_zero, Option.some.injEq] at hq
     subst hq; rw [hp] at hc; cases hc
    | succ j =>
     rw [List.getElem?_cons_succ] at hq
     obtain ⟨k, f', u', g1, g2, g3, g4⟩ := ih.part j q hq hc
     exact ⟨k, f', u', by rw [kidAt_text hp]; exact g1, g2, by omega, g4⟩
   ·rw [e]
    by_cases hx : x = f
    ·exact .inl (by simp [hx])
    ·rcases ih.place x (by omega) h2 with h | ⟨j, q, k, f', u', g1, g2, g3, g4⟩
     ·exact .inl (List.mem_cons_of_mem _ h)
     ·exact .inr ⟨j + 1, q, k, f', u', by rw [List.getElem?_cons_succ]; exact g1, g2, by rw [kidAt_text hp]; exact g3, g4⟩
  | cat hp hk h =>
   rename_i k ks m
   have ih := Cov.facts hlt h
   have hfm := hlt hk
   have e : litsGo (p :: ps) (k :: ks) f = litsGo ps ks m := by simp [litsGo, hp, hk.until_]
   refine ⟨by have := ih.le; omega, fun x hx => ?_, fun j q hq hc => ?_, fun x h1 h2 => ?_⟩
   ·rw [e] at hx
    have := ih.lits x hx; omega
   ·cases j with
    | zero =>
     simp only [List.getElem?_cons_zero, Option.some.injEq] at hq
     subst hq
     exact ⟨k, f, m, rfl, hk, Int.le_refl _, ih.le⟩
    | succ j =>
     rw [List.getElem?_cons_succ] at hq
     obtain ⟨k', f', u', g1, g2, g3, g4⟩ := ih.part j q hq hc
     exact ⟨k', f', u', by rw [kidAt_cat hp]; exact g1, g2, by omega, g4⟩
   ·rw [e]
    by_cases hx : x < m
    ·exact .inr ⟨0, p, k, f, m, rfl, hp, rfl, hk, h1, hx⟩
    ·rcases ih.place x (by omega) h2 with h | ⟨j, q, k', f', u', g1, g2, g3, g4⟩
     ·exact .inl h
     ·exact .inr ⟨j + 1, q, k', f', u', by rw [List.getElem?_cons_succ]; exact g1, g2, by rw [kidAt_cat hp]; exact g3, g4⟩
structure WordsP (l : List TargM) (above : List Int) (f u : Int) : Prop where
 some_ : l ≠ []
 all : ∀ x, f ≤ x → x < u → ∃ w ∈ l, x ∈ w.deps
 above_ : ∀ w ∈ l, ∀ x ∈ above, x ∈ w.deps
 inc : ∀ w ∈ l, w.deps.Pairwise (· < ·)
 only : ∀ w ∈ l, ∀ x ∈ w.deps, (f ≤ x ∧ x < u) ∨ x ∈ above
theorem targ_deps (s : Str) (d above : List Int) (t : Int) (x : Int) : x ∈ (targ s d above t).deps ↔ x ∈ d ∨ x ∈ above := by
 unfold targ
 dsimp only
 rw [norm_mem, List.mem_append]
theorem WF.lt : ∀ {n : Nat} {t : Tree} {cat f u : Int}, WF rules items n t cat f u → f < u
 | 0, _, _, _, _, h => by cases h
 | n + 1, _, _, f, u, h => by
  cases h with
  | leaf h hc hf hu hfu ht => exact hfu
  | node h hc hr hk =>
   rename_i i r ks
   have hp := hr.parts
   match hps : r.parts, hp, hk with
   | p :: ps, _, hk =>
    cases hk with
    | text _ h => have := (Cov.facts (fun h => WF.lt h) h).le; omega
    | cat _ hk h => have := (Cov.facts (fun h => WF.lt h) h).le; have := WF.lt hk; omega
theorem WF.words : ∀ {n : Nat} {t : Tree} {cat f u : Int}, WF rules items n t cat f u → ∀ above, WordsP (walkF rules items n t above) above f u
 | 0, _, _, _, _, h, _ => by cases h
 | n + 1, _, _, f, u, h, above => by
  cases h with
  | leaf h hc hf hu hfu ht =>
   rename_i i x
   have e : walkF rules items (n + 1) (.leaf i f u) above = x.target.map fun s => targ s (span x.from_ x.until_) above x.term := by
    simp only [walkF, h]
   rw [e]
   refine ⟨by simpa using ht, fun z h1 h2 => ?_, fun w hw z hz => ?_, fun w hw => ?_, fun w hw z hz => ?_⟩
   ·obtain ⟨s, r, hsr⟩ := List.exists_cons_of_ne_nil ht
    refine ⟨targ s (span x.from_ x.until_) above x.term, List.mem_map.2 ⟨s, by rw [hsr]; simp, rfl⟩, ?_⟩
    rw [targ_deps, span_mem]
    exact .inl (by omega)
   ·obtain ⟨s, _, rfl⟩ := List.mem_map.1 hw
    rw [targ_deps]; exact .inr hz
   ·obtain ⟨s, _, rfl⟩ := List.mem_map.1 hw
    exact norm_inc _
   ·obtain ⟨s, _, rfl⟩ := List.mem_map.1 hw
    rw [targ_deps, span_mem] at hz
    rcases hz with hz | hz
    ·exact .inl (by omega)
    ·exact .inr hz
  | node h hc hr hk =>
   rename_i i r ks
   have hF := Cov.facts (fun h => WF.lt h) hk
   have e : walkF rules items (n + 1) (.node i f u ks) above = r.gives.flatMap fun y => if y.text.size = 0 then (match kidAt r.parts ks y.part.toNat with
    | none => []
    | some k => walkF rules items n k (above ++ litsGo r.parts ks f)) else [targ y.text (span f u) above (-1)] := by
    simp only [walkF, h]
    rfl
   have kid : ∀ y ∈ r.gives, y.text.size = 0 → ∃ (p : PartM) (k : Tree) (f' u' : Int), r.parts[y.part.toNat]? = some p ∧ kidAt r.parts ks y.part.toNat = some k ∧ WordsP (walkF rules items n k (above ++ litsGo r.parts ks f)) (above ++ litsGo r.parts ks f) f' u' ∧ f ≤ f' ∧ u' ≤ u := fun y hy ht => by
    obtain ⟨_, p, hp, hcat⟩ := hr.part y hy ht
    obtain ⟨k, f', u', g1, g2, g3, g4⟩ := hF.part _ p hp hcat
    exact ⟨p, k, f', u', hp, g1, WF.words g2 _, g3, g4⟩
   have mem : ∀ w, w ∈ walkF rules items (n + 1) (.node i f u ks) above ↔ ∃ y ∈ r.gives, (¬ y.text.size = 0 ∧ w = targ y.text (span f u) above (-1)) ∨ (y.text.size = 0 ∧ ∃ k, kidAt r.parts ks y.part.toNat = some k ∧ w ∈ walkF rules items n k (above ++ litsGo r.parts ks f)) := fun w => by
    rw [e, List.mem_flatMap]
    constructor
    ·rintro ⟨y, hy, hw⟩
     refine ⟨y, hy, ?_⟩
     by_cases ht : y.text.size = 0
     ·rw [if_pos ht] at hw
      cases hk' : kidAt r.parts ks y.part.toNat with
      | none => rw [hk'] at hw; simp at hw
      | some k => rw [hk'] at hw; exact .inr ⟨ht, k, rfl, hw⟩
     ·rw [if_neg ht] at hw
      exact .inl ⟨ht, by simpa using hw⟩
    ·rintro ⟨y, hy, ⟨ht, rfl⟩ | ⟨ht, k, hk', hw⟩⟩
     ·exact ⟨y, hy, by rw [if_neg ht]; simp⟩
     ·exact ⟨y, hy, by rw [if_pos ht, hk']; exact hw⟩
   refine ⟨?_, fun x h1 h2 => ?_, fun w hw z hz => ?_, fun w hw => ?_, fun w hw z hz => ?_⟩
   ·obtain ⟨y, hy⟩ := List.exists_mem_of_ne_nil _ hr.gives
    intro hnil
    by_cases ht : y.text.size = 0
    ·obtain ⟨p, k, f', u', _, g2, g3, _⟩ := kid y hy ht
     obtain ⟨w, hw⟩ := List.exists_mem_of_ne_nil _ g3.some_
     have := (mem w).2 ⟨y, hy, .inr ⟨ht, k, g2, hw⟩⟩
     rw [hnil] at this; simp at this
    ·have := (mem _).2 ⟨y, hy, .inl ⟨ht, rfl⟩⟩
     rw [hnil] at this; simp at this
   ·rcases hF.place x h1 h2 with hl | ⟨j, p, k, f', u', g1, g2, g3, g4, g5, g6⟩
    ·by_cases hall : ∃ y ∈ r.gives, y.text.size = 0
     ·obtain ⟨y, hy, ht⟩ := hall
      obtain ⟨p, k, f', u', _, g2, g3, _⟩ := kid y hy ht
      obtain ⟨w, hw⟩ := List.exists_mem_of_ne_nil _ g3.some_
      exact ⟨w, (mem w).2 ⟨y, hy, .inr ⟨ht, k, g2, hw⟩⟩, g3.above_ w hw x (List.mem_append.2 (.inr hl))⟩
     ·obtain ⟨y, hy⟩ := List.exists_mem_of_ne_nil _ hr.gives
      have ht : ¬ y.text.size = 0 := fun ht => hall ⟨y, hy, ht⟩
      refine ⟨_, (mem _).2 ⟨y, hy, .inl ⟨ht, rfl⟩⟩, ?_⟩
      rw [targ_deps, span_mem]
      exact .inl ⟨h1, h2⟩
    ·obtain ⟨y, hy, ht, hpart⟩ := hr.each j p g1 g2
     have hj : y.part.toNat = j := by omega
     obtain ⟨w, hw, hx⟩ := (WF.words g4 (above ++ litsGo r.parts ks f)).all x g5 g6
     exact ⟨w, (mem w).2 ⟨y, hy, .inr ⟨ht, k, by rw [hj]; exact g3, hw⟩⟩, hx⟩
   ·obtain ⟨y, hy, ⟨ht, rfl⟩ | ⟨ht, k, hk', hw'⟩⟩ := (mem w).1 hw
    ·rw [targ_deps]; exact .inr hz
    ·obtain ⟨p, k', f', u', _, g2, g3, _⟩ := kid y hy ht
     rw [hk'] at g2
     obtain rfl := Option.some.inj g2
     exact g3.above_ w hw' z (List.mem_append.2 (.inl hz))
   ·obtain ⟨y, hy, ⟨ht, rfl⟩ | ⟨ht, k, hk', hw'⟩⟩ := (mem w).1 hw
    ·exact norm_inc _
    ·obtain ⟨p, k', f', u', _, g2, g3, _⟩ := kid y hy ht
     rw [hk'] at g2
     obtain rfl := Option.some.inj g2
     exact g3.inc w hw'
   ·obtain ⟨y, hy, ⟨ht, rfl⟩ | ⟨ht, k, hk', hw'⟩⟩ := (mem w).1 hw
    ·rw [targ_deps, span_mem] at hz
     exact hz
    ·obtain ⟨p, k', f', u', _, g2, g3, g4, g5⟩ := kid y hy ht
     rw [hk'] at g2
     obtain rfl := Option.some.inj g2
     rcases g3.only w hw' z hz with h | h
     ·exact .inl (by omega)
     ·rcases List.mem_append.1 h with h | h
      ·exact .inr h
      ·exact .inl (hF.lits z h)
end Go.Mine.C
namespace Go.Mine.C
def endsL (i last : Int) : List Int := (List.range (last - i).toNat).map fun k : Nat => i + 1 + (k : Int)
theorem endsL_mem {i last m : Int} : m ∈ endsL i last ↔ i + 1 ≤ m ∧ m ≤ last := by
 unfold endsL
 rw [List.mem_map]
 constructor
 ·rintro ⟨k, hk, rfl⟩
  have := List.mem_range.1 hk
  omega
 ·rintro ⟨h1, h2⟩
  exact ⟨(m - i - 1).toNat, List.mem_range.2 (by omega), by omega⟩
def laysL (has : Int → Str → Bool) : List PartM → Int → Int → List (List Int)
 | [], i, u => if i = u then [[]] else []
 | p :: ps, i, u => if u - i < (ps.length : Int) + 1 then [] else
   if p.isCat = true then (endsL i (u - ps.length)).flatMap fun m => (laysL has ps m u).map (m :: ·)
   else if has i p.text = true then laysL has ps (i + 1) u else []
def wrp (n : Int) : Int := (n + 9223372036854775808) % 18446744073709551616 - 9223372036854775808
structure Found where
 ok : Bool
 cost : Int
 tree : Option Tree
 many : Int
def Found.none : Found := ⟨false, 0, .none, 0⟩
def Found.take (f : Found) (cost many : Int) (t : Tree) : Found :=
 if f.ok = false ∨ cost < f.cost then ⟨true, cost, some t, min (wrp (f.many + many)) 1099511627777⟩ else { f with many := min (wrp (f.many + many)) 1099511627777 }
theorem Found.take_tree (f : Found) (cost many : Int) (t : Tree) : (f.take cost many t).tree = some t ∨ (f.ok = true ∧ (f.take cost many t).tree = f.tree) := by
 unfold Found.take
 split
 ·exact .inl rfl
 ·rename_i h
  simp only [not_or, Bool.not_eq_false] at h
  exact .inr ⟨h.1, rfl⟩
def timesM (a b : Int) : Int := if 0 < a ∧ (1099511627776 : Int).tdiv a < b then 1099511627777 else wrp (a * b)
def kidsGo (find : Int → Int → Int → Found) : List PartM → List Int → Int → Int → Int → List Tree → Option (Int × Int × List Tree)
 | [], _, _, cost, many, ks => some (cost, many, ks)
 | p :: ps, ends, at_, cost, many, ks => if p.isCat = true then (match ends with
   | [] => none
   | e :: ends => match (find p.catNo at_ e) with
    | ⟨true, c, some t, m⟩ => kidsGo find ps ends e (wrp (cost + c)) (timesM many m) (ks ++ [t])
    | _ => none) else kidsGo find ps ends (at_ + 1) cost many ks
def takeKids (i : Nat) (f u : Int) (x : Found) : Option (Int × Int × List Tree) → Found
 | none => x
 | some (cost, many, ks) => if 0 < many then x.take cost many (.node i f u ks) else x
def phrasesF (items : List ItemM) (cat f u : Int) (x : Found) : Found :=
 (items.zipIdx).foldl (fun x y => if y.1.cat = cat ∧ y.1.from_ = f ∧ y.1.until_ = u then x.take y.1.cost 1 (.leaf y.2 f u) else x) x
def rulesF (rules : List RuleM) (has : Int → Str → Bool) (find : Int → Int → Int → Found) (cat f u : Int) (x : Found) : Found :=
 (rules.zipIdx).foldl (fun x y => if y.1.catNo = cat then (laysL has y.1.parts f u).foldl (fun x ends => takeKids y.2 f u x (kidsGo find y.1.parts ends f y.1.cost 1 [])) x else x) x
def findF (rules : List RuleM) (items : List ItemM) (has : Int → Str → Bool) : Nat → Int → Int → Int → Found
 | 0, _, _, _ => .none
 | n + 1, cat, f, u => rulesF rules has (findF rules items has n) cat f u (phrasesF items cat f u .none)
variable {rules : List RuleM} {items : List ItemM} {has : Int → Str → Bool}
def FindOk (rules : List RuleM) (items : List ItemM) (n : Nat) (find : Int → Int → Int → Found) : Prop :=
 ∀ (cat f u : Int) (t : Tree), (find cat f u).ok = true → (find cat f u).tree = some t → WF rules items n t cat f u
theorem kids_cov {n : Nat} {find : Int → Int → Int → Found} (hf : FindOk rules items n find) : ∀ {ps : List PartM} {ends : List Int} {at_ u cost many : Int} {ks0 : List Tree} {r : Int × Int × List Tree}, ends ∈ laysL has ps at_ u → kidsGo find ps ends at_ cost many ks0 = some r → ∃ ks, r.2.2 = ks0 ++ ks ∧ Cov rules items n ps ks at_ u
 | [], ends, at_, u, cost, many, ks0, r, hl, hk => by
  unfold laysL at hl
  by_cases e : at_ = u
  ·subst e
   simp only [kidsGo, Option.some.injEq] at hk
   subst hk
   exact ⟨[], by simp, .nil⟩
  ·rw [if_neg e] at hl; simp at hl
 | p :: ps, ends, at_, u, cost, many, ks0, r, hl, hk => by
  unfold laysL at hl
  by_cases h1 : u - at_ < (ps.length : Int) + 1
  ·rw [if_pos h1] at hl; simp at hl
  ·rw [if_neg h1] at hl
   by_cases hp : p.isCat = true
   ·rw [if_pos hp, List.mem_flatMap] at hl
    obtain ⟨m, hm, he⟩ := hl
    obtain ⟨ends', he', rfl⟩ := List.mem_map.1 he
    unfold kidsGo at hk
    rw [if_pos hp] at hk
    dsimp only at hk
    have hfm := hf p.catNo at_ m
    cases hx : find p.catNo at_ m with
    | mk ok c tr mny =>
     rw [hx] at hk hfm
     cases ok with
     | false => simp at hk
     | true =>
      cases tr with
      | none => simp at hk
      | some t =>
       dsimp only at hk
       obtain ⟨ks, e1, e2⟩ := kids_cov hf he' hk
       refine ⟨t :: ks, by rw [e1]; simp, .cat hp (hfm t rfl rfl) e2⟩
   ·rw [if_neg hp] at hl
    by_cases hh : has at_ p.text = true
    ·rw [if_pos hh] at hl
     unfold kidsGo at hk
     rw [if_neg hp] at hk
     obtain ⟨ks, e1, e2⟩ := kids_cov hf hl hk
     exact ⟨ks, e1, .text (by simpa using hp) e2⟩
    ·rw [if_neg hh] at hl; simp at hl
def GoodF (rules : List RuleM) (items : List ItemM) (n : Nat) (cat f u : Int) (x : Found) : Prop := ∀ t, x.ok = true → x.tree = some t → WF rules items n t cat f u
theorem GoodF.take {n : Nat} {cat f u : Int} {x : Found} (h : GoodF rules items n cat f u x) {cost many : Int} {t : Tree} (ht : WF rules items n t cat f u) : GoodF rules items n cat f u (x.take cost many t) := by
 intro t' h1 h2
 rcases Found.take_tree x cost many t with e | ⟨e1, e2⟩
 ·rw [e] at h2
  obtain rfl := Option.some.inj h2
  exact ht
 ·rw [e2] at h2
  exact h t' e1 h2
theorem fold_good {α : Type} {P : Found → Prop} {g : Found → α → Found} : ∀ {l : List α} {x : Found}, P x → (∀ x y, y ∈ l → P x → P (g x y)) → P (l.foldl g x)
 | [], _, h, _ => h
 | y :: l, x, h, hg => by
  rw [List.foldl_cons]
  exact fold_good (P := P) (g := g) (l := l) (hg x y (List.mem_cons_self ..) h) fun x z hz => hg x z (List.mem_cons_of_mem _ hz)
structure InOk (rules : List RuleM) (items : List ItemM) : Prop where
 rule : ∀ r ∈ rules, RuleOk r
 item : ∀ x ∈ items, x.from_ < x.until_ ∧ x.target ≠ []
theorem find_ok (h : InOk rules items) : ∀ n, FindOk rules items n (findF rules items has n)
 | 0 => by
  intro cat f u t h1 _
  simp [findF, Found.none] at h1
 | n + 1 => by
  intro cat f u t h1 h2
  have ih := find_ok h n
  have hp : GoodF rules items (n + 1) cat f u (phrasesF items cat f u .none) := by
   unfold phrasesF
   refine fold_good (P := GoodF rules items (n + 1) cat f u) (fun t h _ => by simp [Found.none] at h) fun x y hy hx => ?_
   split
   ·rename_i hc
    obtain ⟨e1, e2, e3⟩ := hc
    have hk := List.mem_zipIdx_iff_getElem?.1 hy
    have hi := h.item y.1 (List.mem_of_getElem? hk)
    exact hx.take (.leaf hk e1 e2 e3 (by omega) hi.2)
   ·exact hx
  have hr : GoodF rules items (n + 1) cat f u (rulesF rules has (findF rules items has n) cat f u (phrasesF items cat f u .none)) := by
   unfold rulesF
   refine fold_good (P := GoodF rules items (n + 1) cat f u) hp fun x y hy hx => ?_
   split
   ·rename_i hc
    have hk := List.mem_zipIdx_iff_getElem?.1 hy
    refine fold_good (P := GoodF rules items (n + 1) cat f u) hx fun x ends he hx => ?_
    cases hg : kidsGo (findF rules items has n) y.1.parts ends f y.1.cost 1 [] with
    | none => exact hx
    | some r =>
     obtain ⟨cost, many, ks⟩ := r
     obtain ⟨ks', e1, e2⟩ := kids_cov ih he hg
     simp only [List.nil_append] at e1
     subst e1
     unfold takeKids
     dsimp only
     split
     ·exact hx.take (.node hk hc (h.rule _ (List.mem_of_getElem? hk)) e2)
     ·exact hx
   ·exact hx
  exact hr t h1 h2
end Go.Mine.C
namespace Go.Mine.C
variable {rules : List RuleM} {items : List ItemM} {has : Int → Str → Bool}
theorem kids_congr {find find' : Int → Int → Int → Found} : ∀ {ps : List PartM} {ends : List Int} {at_ u cost many : Int} {ks0 : List Tree}, ends ∈ laysL has ps at_ u →
  (∀ p ∈ ps, p.isCat = true → ∀ a e : Int, at_ ≤ a → a < e → e ≤ u → e - a + (ps.length : Int) ≤ u - at_ + 1 → find p.catNo a e = find' p.catNo a e) → kidsGo find ps ends at_ cost many ks0 = kidsGo find' ps ends at_ cost many ks0
 | [], _, _, _, _, _, _, _, _ => rfl
 | p :: ps, ends, at_, u, cost, many, ks0, hl, hg => by
  unfold laysL at hl
  by_cases h1 : u - at_ < (ps.length : Int) + 1
  ·rw [if_pos h1] at hl; simp at hl
  ·rw [if_neg h1] at hl
   by_cases hp : p.isCat = true
   ·rw [if_pos hp, List.mem_flatMap] at hl
    obtain ⟨m, hm, he⟩ := hl
    obtain ⟨ends', he', rfl⟩ := List.mem_map.1 he
    rw [endsL_mem] at hm
    have e0 := hg p (by simp) hp at_ m (Int.le_refl _) (by omega) (by omega) (by simp only [List.length_cons]; omega)
    have hrest : ∀ (cost many : Int) (ks0 : List Tree), kidsGo find ps ends' m cost many ks0 = kidsGo find' ps ends' m cost many ks0 := fun cost many ks0 => kids_congr he' fun q hq hc a e h2 h3 h4 h5 => hg q (List.mem_cons_of_mem _ hq) hc a e (by omega) h3 h4 (by simp only [List.length_cons]; omega)
    unfold kidsGo
    rw [if_pos hp, if_pos hp]
    dsimp only
    rw [← e0]
    cases find p.catNo at_ m with
    | mk ok c tr mny =>
     cases ok with
     | false => rfl
     | true =>
      cases tr with
      | none => rfl
      | some t => exact hrest _ _ _
   ·rw [if_neg hp] at hl
    by_cases hh : has at_ p.text = true
    ·rw [if_pos hh] at hl
     unfold kidsGo
     rw [if_neg hp, if_neg hp]
     exact kids_congr hl fun q hq hc a e h2 h3 h4 h5 => hg q (List.mem_cons_of_mem _ hq) hc a e (by omega) h3 h4 (by simp only [List.length_cons]; omega)
    ·rw [if_neg hh] at hl; simp at hl
theorem foldl_congr {α β : Type} {g h : β → α → β} : ∀ {l : List α} {x : β}, (∀ x y, y ∈ l → g x y = h x y) → l.foldl g x = l.foldl h x
 | [], _, _ => rfl
 | y :: l, x, e => by
  rw [List.foldl_cons, List.foldl_cons, e x y (List.mem_cons_self ..)]
  exact foldl_congr fun x z hz => e x z (List.mem_cons_of_mem _ hz)
structure RankP (rules : List RuleM) (K : Nat) (rk : Int → Nat) : Prop where
 lt : ∀ c, rk c < K
 chain : ∀ r ∈ rules, ∀ p, r.parts = [p] → p.isCat = true → rk p.catNo < rk r.catNo
def meas (K : Nat) (rk : Int → Nat) (cat f u : Int) : Nat := (u - f).toNat * K + rk cat
theorem find_deep {K : Nat} {rk : Int → Nat} (hR : RankP rules K rk) : ∀ (n m : Nat) (cat f u : Int), meas K rk cat f u < n → meas K rk cat f u < m → findF rules items has n cat f u = findF rules items has m cat f u
 | 0, _, _, _, _, h, _ => by omega
 | _, 0, _, _, _, _, h => by omega
 | n + 1, m + 1, cat, f, u, h1, h2 => by
  unfold findF rulesF
  refine foldl_congr fun x y hy => ?_
  split
  ·rename_i hc
   have hk := List.mem_of_getElem? (List.mem_zipIdx_iff_getElem?.1 hy)
   refine foldl_congr fun x ends he => ?_
   congr 1
   refine kids_congr he fun p hp hcat a e g1 g2 g3 g4 => ?_
   have hlt : meas K rk p.catNo a e < meas K rk cat f u := by
    unfold meas
    have h3 := hR.lt p.catNo
    have hpl : 0 < y.1.parts.length := List.length_pos_of_mem hp
    by_cases hone : y.1.parts.length = 1
    ·obtain ⟨q, hq⟩ := List.length_eq_one_iff.1 hone
     have : p = q := by rw [hq] at hp; simpa using hp
     subst this
     have h4 := hR.chain y.1 hk p hq hcat
     rw [hc] at h4
     have h5 : (e - a).toNat * K ≤ (u - f).toNat * K := Nat.mul_le_mul_right _ (by omega)
     omega
    ·have h5 : ((e - a).toNat + 1) * K ≤ (u - f).toNat * K := Nat.mul_le_mul_right _ (by omega)
     rw [Nat.succ_mul] at h5
     omega
   exact find_deep hR n m p.catNo a e (by omega) (by omega)
  ·rfl
end Go.Mine.C
namespace Go.Mine.C
variable {rules : List RuleM} {items : List ItemM} {has : Int → Str → Bool}
theorem find_fix {K : Nat} {rk : Int → Nat} (hR : RankP rules K rk) {D : Nat} {cat f u : Int} (h : meas K rk cat f u < D) : findF rules items has D cat f u = rulesF rules has (findF rules items has D) cat f u (phrasesF items cat f u .none) :=
 (find_deep (items := items) (has := has) hR D (D + 1) cat f u h (by omega)).trans rfl
def enStep (F : Int → Int → Int → Found) (ps : List PartM) (rc : Int) (idx : Nat) (f u : Int) (x : Found) (ends : List Int) : Found := takeKids idx f u x (kidsGo F ps ends f rc 1 [])
def enGo (F : Int → Int → Int → Found) (ps : List PartM) (rc : Int) (idx : Nat) (f u : Int) (l : List (List Int)) (x : Found) (k : Nat) : Found := (l.take k).foldl (enStep F ps rc idx f u) x
theorem enGo_succ {F : Int → Int → Int → Found} {ps : List PartM} {rc : Int} {idx : Nat} {f u : Int} {l : List (List Int)} {x : Found} {k : Nat} {e : List Int} (h : l[k]? = some e) : enGo F ps rc idx f u l x (k + 1) = enStep F ps rc idx f u (enGo F ps rc idx f u l x k) e := by
 unfold enGo
 rw [List.take_add_one, h, List.foldl_append]
 rfl
def rlStep (has : Int → Str → Bool) (F : Int → Int → Int → Found) (cat f u : Int) (x : Found) (y : RuleM × Nat) : Found :=
 if y.1.catNo = cat then enGo F y.1.parts y.1.cost y.2 f u (laysL has y.1.parts f u) x (laysL has y.1.parts f u).length else x
def rlGo (rules : List RuleM) (has : Int → Str → Bool) (F : Int → Int → Int → Found) (cat f u : Int) (x : Found) (k : Nat) : Found := (rules.zipIdx.take k).foldl (rlStep has F cat f u) x
theorem rlGo_succ {F : Int → Int → Int → Found} {cat f u : Int} {x : Found} {k : Nat} {y : RuleM} (h : rules[k]? = some y) : rlGo rules has F cat f u x (k + 1) = rlStep has F cat f u (rlGo rules has F cat f u x k) (y, k) := by
 unfold rlGo
 have : rules.zipIdx[k]? = some (y, k) := by rw [List.getElem?_zipIdx, h]; simp
 rw [List.take_add_one, this, List.foldl_append]
 rfl
theorem rlGo_all (rules : List RuleM) (has : Int → Str → Bool) (F : Int → Int → Int → Found) (cat f u : Int) (x : Found) : rlGo rules has F cat f u x rules.length = rulesF rules has F cat f u x := by
 unfold rlGo rulesF
 rw [List.take_of_length_le (by simp)]
 refine foldl_congr fun x y _ => ?_
 unfold rlStep
 split
 ·unfold enGo
  rw [List.take_of_length_le (Nat.le_refl _)]
  rfl
 ·rfl
theorem lay_cat {p : PartM} {ps : List PartM} {at_ u : Int} {e : List Int} (hp : p.isCat = true) (h : e ∈ laysL has (p :: ps) at_ u) : ∃ m e', e = m :: e' ∧ at_ + 1 ≤ m ∧ m ≤ u - (ps.length : Int) ∧ e' ∈ laysL has ps m u := by
 unfold laysL at h
 by_cases h1 : u - at_ < (ps.length : Int) + 1
 ·rw [if_pos h1] at h; simp at h
 ·rw [if_neg h1, if_pos hp, List.mem_flatMap] at h
  obtain ⟨m, hm, he⟩ := h
  obtain ⟨e', he', rfl⟩ := List.mem_map.1 he
  rw [endsL_mem] at hm
  exact ⟨m, e', rfl, hm.1, hm.2, he'⟩
theorem lay_text {p : PartM} {ps : List PartM} {at_ u : Int} {e : List Int} (hp : p.isCat = false) (h : e ∈ laysL has (p :: ps) at_ u) : e ∈ laysL has ps (at_ + 1) u ∧ at_ + 1 + (ps.length : Int) ≤ u := by
 unfold laysL at h
 by_cases h1 : u - at_ < (ps.length : Int) + 1
 ·rw [if_pos h1] at h; simp at h
 ·rw [if_neg h1, if_neg (by rw [hp]; decide)] at h
  by_cases hh : has at_ p.text = true
  ·rw [if_pos hh] at h; exact ⟨h, by omega⟩
  ·rw [if_neg hh] at h; simp at h
theorem meas_sub {K : Nat} {rk : Int → Nat} (hR : RankP rules K rk) {r : RuleM} (hr : r ∈ rules) {cat f u a m : Int} (hc : r.catNo = cat) {pi : Nat} {p : PartM} (hp : r.parts[pi]? = some p) (hpc : p.isCat = true) (h1 : f + (pi : Int) ≤ a) (h2 : a < m) (h3 : m + (r.parts.length : Int) ≤ u + (pi : Int) + 1) :
  meas K rk p.catNo a m < meas K rk cat f u := by
 have hlt : pi < r.parts.length := (List.getElem?_eq_some_iff.1 hp).1
 unfold meas
 have h4 := hR.lt p.catNo
 by_cases hone : r.parts.length = 1
 ·obtain ⟨q, hq⟩ := List.length_eq_one_iff.1 hone
  have hpq : p = q := by rw [hq] at hp hlt; simp at hlt; subst hlt; simpa using hp.symm
  subst hpq
  have h5 := hR.chain r hr p hq hpc
  rw [hc] at h5
  have h6 : (m - a).toNat * K ≤ (u - f).toNat * K := Nat.mul_le_mul_right _ (by omega)
  omega
 ·have h6 : ((m - a).toNat + 1) * K ≤ (u - f).toNat * K := Nat.mul_le_mul_right _ (by omega)
  rw [Nat.succ_mul] at h6
  omega
theorem kids_nil (F : Int → Int → Int → Found) (e : List Int) (a cost many : Int) (ks : List Tree) : kidsGo F [] e a cost many ks = some (cost, many, ks) := by unfold kidsGo; rfl
theorem kids_text {F : Int → Int → Int → Found} {p : PartM} {ps : List PartM} {e : List Int} {a cost many : Int} {ks : List Tree} (hp : p.isCat = false) : kidsGo F (p :: ps) e a cost many ks = kidsGo F ps e (a + 1) cost many ks := by
 conv => lhs; unfold kidsGo
 rw [if_neg (by rw [hp]; decide)]
theorem kids_yes {F : Int → Int → Int → Found} {p : PartM} {ps : List PartM} {e : List Int} {a m cost many : Int} {ks : List Tree} (hp : p.isCat = true) {c mny : Int} {t : Tree} (hF : F p.catNo a m = ⟨true, c, some t, mny⟩) : kidsGo F (p :: ps) (m :: e) a cost many ks = kidsGo F ps e m (wrp (cost + c)) (timesM many mny) (ks ++ [t]) := by
 conv => lhs; unfold kidsGo
 rw [if_pos hp]
 dsimp only
 rw [hF]
theorem kids_no {F : Int → Int → Int → Found} {p : PartM} {ps : List PartM} {e : List Int} {a m cost many : Int} {ks : List Tree} (hp : p.isCat = true) (hF : (F p.catNo a m).ok = false) : kidsGo F (p :: ps) (m :: e) a cost many ks = none := by
 conv => lhs; unfold kidsGo
 rw [if_pos hp]
 dsimp only
 cases hx : F p.catNo a m with
 | mk ok c tr mny => rw [hx] at hF; simp only at hF; subst hF; rfl
def goalsL (start : Int) (rules : List RuleM) (n : Nat) : List (Int × Int × Int) :=
 (start :: rules.flatMap fun r => r.parts.map fun p => p.catNo).flatMap fun c => (List.range (n + 1)).flatMap fun f : Nat => (List.range (n + 1)).map fun u : Nat => (c, (f : Int), (u : Int))
theorem goals_mem {start : Int} {rules : List RuleM} {n : Nat} {c f u : Int} (hc : c = start ∨ ∃ r ∈ rules, ∃ p ∈ r.parts, p.catNo = c) (hf : 0 ≤ f ∧ f ≤ n) (hu : 0 ≤ u ∧ u ≤ n) : (c, f, u) ∈ goalsL start rules n := by
 unfold goalsL
 refine List.mem_flatMap.2 ⟨c, ?_, List.mem_flatMap.2 ⟨f.toNat, List.mem_range.2 (by omega), List.mem_map.2 ⟨u.toNat, List.mem_range.2 (by omega), by
  rw [Int.toNat_of_nonneg hf.1, Int.toNat_of_nonneg hu.1]⟩⟩⟩
 rcases hc with rfl | ⟨r, hr, p, hp, rfl⟩
 ·simp
 ·exact List.mem_cons_of_mem _ (List.mem_flatMap.2 ⟨r, hr, List.mem_map.2 ⟨p, hp, rfl⟩⟩)
def knownN {V : Type} (G : List (Int × Int × Int)) (m : Int × Int × Int → Option V) : Nat := G.countP fun k => (m k).isSome
theorem knownN_le {V : Type} (G : List (Int × Int × Int)) (m : Int × Int × Int → Option V) : knownN G m ≤ G.length := List.countP_le_length
theorem knownN_put {V : Type} {G : List (Int × Int × Int)} {m m' : Int × Int × Int → Option V} {k : Int × Int × Int} (hk : k ∈ G) (h0 : m k = none) (h1 : (m' k).isSome = true) (h2 : ∀ j, j ≠ k → m' j = m j) : knownN G m + 1 ≤ knownN G m' := by
 have mono : ∀ G : List (Int × Int × Int), knownN G m ≤ knownN G m' := fun G => by
  unfold knownN
  refine List.countP_mono_left fun j _ hj => ?_
  by_cases e : j = k
  ·rw [e]; exact h1
  ·rw [h2 j e]; exact hj
 induction G with
 | nil => cases hk
 | cons j G ih =>
  unfold knownN at *
  by_cases e : j = k
  ·subst e
   rw [List.countP_cons_of_neg (by rw [h0]; simp), List.countP_cons_of_pos (p := fun k => (m' k).isSome) h1]
   have := mono G
   unfold knownN at this
   omega
  ·have hk' : k ∈ G := by
    rcases List.mem_cons.1 hk with h | h
    ·exact absurd h.symm e
    ·exact h
   have ih := ih hk'
   rw [List.countP_cons, List.countP_cons, h2 j e]
   omega
end Go.Mine.C
namespace Go.Mine.C
variable {rules : List RuleM} {items : List ItemM}
theorem sum_split {G : Nat → Nat} (n : Nat) : ∀ {js : List Nat}, js.Nodup → (js.map G).sum = ((js.filter fun j => decide (j ≠ n)).map G).sum + (if n ∈ js then G n else 0)
 | [], _ => by simp
 | j :: js, h => by
  obtain ⟨h1, h2⟩ := List.nodup_cons.1 h
  have ih := sum_split (G := G) n h2
  by_cases e : j = n
  ·subst e
   rw [List.map_cons, List.sum_cons, ih, if_neg h1, List.filter_cons_of_neg (by simp), if_pos (by simp)]
   omega
  ·rw [List.map_cons, List.sum_cons, ih, List.filter_cons_of_pos (by simpa using e), List.map_cons, List.sum_cons]
   have : (n ∈ j :: js) ↔ n ∈ js := by
    rw [List.mem_cons]
    exact ⟨fun h => h.resolve_left fun h => e h.symm, .inr⟩
   by_cases hn : n ∈ js
   ·rw [if_pos hn, if_pos (this.2 hn)]; omega
   ·rw [if_neg hn, if_neg fun h => hn (this.1 h)]; omega
theorem sum_sub {G : Nat → Nat} : ∀ (n : Nat) {js : List Nat}, js.Nodup → (∀ j ∈ js, j < n) → (js.map G).sum ≤ ((List.range n).map G).sum
 | 0, js, _, h => by
  match js, h with
  | [], _ => simp
  | j :: _, h => have := h j (by simp); omega
 | n + 1, js, hd, h => by
  rw [sum_split (G := G) n hd]
  have ih := sum_sub (G := G) n (js := js.filter fun j => decide (j ≠ n)) (hd.sublist List.filter_sublist) fun j hj => by
   obtain ⟨h1, h2⟩ := List.mem_filter.1 hj
   have := h j h1
   have : j ≠ n := of_decide_eq_true h2
   omega
  rw [List.range_succ, List.map_append, List.sum_append]
  simp only [List.map_cons, List.map_nil, List.sum_cons, List.sum_nil]
  split <;> omega
def kidLen {α : Type} (ks : List α) (g : α → Nat) (j : Nat) : Nat := match ks[j]? with | none => 0 | some k => g k
theorem sum_range_get {α : Type} (g : α → Nat) : ∀ (ks : List α), ((List.range ks.length).map (kidLen ks g)).sum = (ks.map g).sum
 | ks => by
  have : (List.range ks.length).map (kidLen ks g) = ks.map g := by
   apply List.ext_getElem
   ·simp
   ·intro i h1 h2
    simp only [List.getElem_map, List.getElem_range]
    have : i < ks.length := by simpa using h1
    unfold kidLen
    rw [List.getElem?_eq_getElem this]
  rw [this]
theorem cov_sum {n K : Nat} {L : Tree → Nat} (hL : ∀ {t : Tree} {cat f u : Int}, WF rules items n t cat f u → L t + 8 * K ≤ 16 * (K * (u - f).toNat)) : ∀ {ps : List PartM} {ks : List Tree} {f u : Int}, Cov rules items n ps ks f u → (ks.map L).sum + 8 * (K * ps.length) ≤ 16 * (K * (u - f).toNat)
 | [], ks, f, u, h => by
  cases h
  simp
 | p :: ps, ks, f, u, h => by
  cases h with
  | text hp h =>
   have ih := cov_sum hL h
   have hle := (Cov.facts (fun h => WF.lt h) h).le
   have e : (u - f).toNat = 1 + (u - (f + 1)).toNat := by omega
   rw [e, Nat.mul_add, List.length_cons, Nat.mul_add]
   omega
  | cat hp hk h =>
   rename_i k ks m
   have ih := cov_sum hL h
   have hle := (Cov.facts (fun h => WF.lt h) h).le
   have hlt := WF.lt hk
   have h1 := hL hk
   have e : (u - f).toNat = (m - f).toNat + (u - m).toNat := by omega
   rw [e, Nat.mul_add, List.length_cons, Nat.mul_add, List.map_cons, List.sum_cons]
   omega
theorem idx_inj (ps : List PartM) {i j : Nat} {p q : PartM} (hi : ps[i]? = some p) (hj : ps[j]? = some q) (hp : p.isCat = true) (hq : q.isCat = true) (h : (ps.take i).countP PartM.isCat = (ps.take j).countP PartM.isCat) : i = j := by
 have key : ∀ {i j : Nat} {p : PartM}, i < j → ps[i]? = some p → p.isCat = true → (ps.take i).countP PartM.isCat < (ps.take j).countP PartM.isCat := by
  intro i j p hij hi hp
  have e : ps.take j = ps.take i ++ (ps.drop i).take (j - i) := by
   rw [← List.take_add]; congr 1; omega
  rw [e, List.countP_append]
  have : (ps.drop i).take (j - i) = p :: ((ps.drop (i + 1)).take (j - i - 1)) := by
   obtain ⟨hlt, he⟩ := List.getElem?_eq_some_iff.1 hi
   rw [List.drop_eq_getElem_cons hlt, he]
   rw [show j - i = (j - i - 1) + 1 by omega, List.take_succ_cons]
   simp
  rw [this, List.countP_cons_of_pos hp]
  omega
 rcases Nat.lt_trichotomy i j with h1 | h1 | h1
 ·have := key h1 hi hp; omega
 ·exact h1
 ·have := key h1 hj hq; omega
theorem flat_len {α : Type} {l : List α} {F : α → List TargM} {G : α → Nat} {P : α → Bool} (h0 : ∀ x ∈ l, P x = false → (F x).length ≤ 1) (h1 : ∀ x ∈ l, P x = true → (F x).length = G x) : (l.flatMap F).length ≤ l.length + ((l.filter P).map G).sum := by
 induction l with
 | nil => simp
 | cons x l ih =>
  have ih := ih (fun y hy => h0 y (List.mem_cons_of_mem _ hy)) (fun y hy => h1 y (List.mem_cons_of_mem _ hy))
  rw [List.flatMap_cons, List.length_append, List.length_cons]
  cases hP : P x
  ·rw [List.filter_cons_of_neg (by simp [hP])]
   have := h0 x (by simp) hP
   omega
  ·rw [List.filter_cons_of_pos hP, List.map_cons, List.sum_cons]
   have := h1 x (by simp) hP
   omega
theorem words_len {K : Nat} {rk : Int → Nat} (hR : RankP rules K rk) (hI : ∀ x ∈ items, x.target.length ≤ 8) : ∀ {n : Nat} {t : Tree} {cat f u : Int}, WF rules items n t cat f u → ∀ above, (walkF rules items n t above).length + 16 * K ≤ 16 * (K * (u - f).toNat) + 8 * (rk cat + 1)
 | 0, _, _, _, _, h, _ => by cases h
 | n + 1, _, cat, f, u, h, above => by
  have hK := hR.lt cat
  have hfu := WF.lt h
  have hKW : K ≤ K * (u - f).toNat := Nat.le_mul_of_pos_right _ (by omega)
  cases h with
  | leaf h hc hf hu hfu' ht =>
   rename_i i x
   have e : walkF rules items (n + 1) (.leaf i f u) above = x.target.map fun s => targ s (span x.from_ x.until_) above x.term := by
    simp only [walkF, h]
   rw [e, List.length_map]
   have := hI x (List.mem_of_getElem? h)
   omega
  | node h hc hr hk =>
   rename_i i r ks
   have hF := Cov.facts (fun h => WF.lt h) hk
   obtain ⟨ab, hab⟩ : ∃ ab, above ++ litsGo r.parts ks f = ab := ⟨_, rfl⟩
   have e : walkF rules items (n + 1) (.node i f u ks) above = r.gives.flatMap fun y => if y.text.size = 0 then (match kidAt r.parts ks y.part.toNat with
    | none => []
    | some k => walkF rules items n k (above ++ litsGo r.parts ks f)) else [targ y.text (span f u) above (-1)] := by
    simp only [walkF, h]
    rfl
   rw [hab] at e
   have h1 : (walkF rules items (n + 1) (.node i f u ks) above).length ≤ r.gives.length + ((r.gives.filter fun y => decide (y.text.size = 0)).map fun y => kidLen ks (fun k => (walkF rules items n k ab).length) ((r.parts.take y.part.toNat).countP PartM.isCat)).sum := by
    rw [e]
    refine flat_len (P := fun y : GiveM => decide (y.text.size = 0)) (fun y _ hy => ?_) (fun y _ hy => ?_)
    ·have hy : ¬ y.text.size = 0 := of_decide_eq_false hy
     rw [if_neg hy]; simp
    ·have hy : y.text.size = 0 := of_decide_eq_true hy
     rw [if_pos hy]
     unfold kidAt kidLen
     cases ks[(r.parts.take y.part.toNat).countP PartM.isCat]? <;> rfl
   have hdat : ∀ y ∈ r.gives.filter (fun y => decide (y.text.size = 0)), 0 ≤ y.part ∧ ∃ p, r.parts[y.part.toNat]? = some p ∧ p.isCat = true := fun y hy => by
    obtain ⟨g1, g2⟩ := List.mem_filter.1 hy
    exact hr.part y g1 (of_decide_eq_true g2)
   have h2 : ((r.gives.filter fun y => decide (y.text.size = 0)).map fun y => kidLen ks (fun k => (walkF rules items n k ab).length) ((r.parts.take y.part.toNat).countP PartM.isCat)).sum ≤ (ks.map fun k => (walkF rules items n k ab).length).sum := by
    rw [← sum_range_get (fun k => (walkF rules items n k ab).length) ks]
    have hnd : ((r.gives.filter fun y => decide (y.text.size = 0)).map fun y => (r.parts.take y.part.toNat).countP PartM.isCat).Nodup := by
     have ho := hr.once
     revert hdat ho
     generalize r.gives.filter (fun y => decide (y.text.size = 0)) = ys
     induction ys with
     | nil => intro _ _; exact .nil
     | cons y ys ih =>
      intro hd ho
      rw [List.map_cons, List.nodup_cons] at ho ⊢
      refine ⟨fun hm => ?_, ih (fun z hz => hd z (List.mem_cons_of_mem _ hz)) ho.2⟩
      obtain ⟨z, hz, he⟩ := List.mem_map.1 hm
      obtain ⟨g1, p, g2, g3⟩ := hd y (by simp)
      obtain ⟨g4, q, g5, g6⟩ := hd z (List.mem_cons_of_mem _ hz)
      have := idx_inj r.parts g5 g2 g6 g3 he
      exact ho.1 (List.mem_map.2 ⟨z, hz, by omega⟩)
    have := sum_sub (G := kidLen ks fun k => (walkF rules items n k ab).length) ks.length hnd (fun j hj => by
     obtain ⟨y, hy, rfl⟩ := List.mem_map.1 hj
     obtain ⟨_, p, g2, g3⟩ := hdat y hy
     obtain ⟨k, _, _, g4, _⟩ := hF.part _ p g2 g3
     exact (List.getElem?_eq_some_iff.1 g4).1)
    rw [List.map_map] at this
    exact this
   have h3 := hr.few
   have hlen : r.parts.length ≠ 0 := by simpa using hr.parts
   by_cases hone : r.parts.length = 1
   ·obtain ⟨p, hp⟩ := List.length_eq_one_iff.1 hone
    rw [hp] at hk
    cases hk with
    | text hpc hk' =>
     cases hk'
     simp only [List.map_nil, List.sum_nil] at h2
     omega
    | cat hpc hkk hk' =>
     cases hk'
     have h4 := words_len hR hI hkk ab
     have h5 := hR.chain r (List.mem_of_getElem? h) p hp hpc
     rw [hc] at h5
     simp only [List.map_cons, List.map_nil, List.sum_cons, List.sum_nil] at h2
     omega
   ·have h4 := cov_sum (K := K) (L := fun k => (walkF rules items n k ab).length) (fun {t cat f u} ht => by
     have h5 := words_len hR hI ht ab
     have h6 := hR.lt cat
     omega) hk
    have h5 : K * 2 ≤ K * r.parts.length := Nat.mul_le_mul_left _ (by omega)
    omega
end Go.Mine.C
namespace Go.Mine.C
def longer (best : Option (Nat × ItemM)) (x : ItemM) : Bool := match best with
 | none => true
 | some y => decide (y.2.until_ < x.until_)
def bestGo (i : Int) : List ItemM → Nat → Option (Nat × ItemM) → Option (Nat × ItemM)
 | [], _, best => best
 | x :: l, k, best => bestGo i l (k + 1) (if (decide (0 ≤ x.cat) && (decide (x.from_ = i) && longer best x)) = true then some (k, x) else best)
theorem bestGo_ok {items : List ItemM} {i : Int} : ∀ {l : List ItemM} {k : Nat} {best : Option (Nat × ItemM)}, items.drop k = l → (∀ y, best = some y → items[y.1]? = some y.2 ∧ 0 ≤ y.2.cat ∧ y.2.from_ = i) → (∀ y, bestGo i l k best = some y → items[y.1]? = some y.2 ∧ 0 ≤ y.2.cat ∧ y.2.from_ = i) ∧ ((best.isSome = true ∨ ∃ x ∈ l, 0 ≤ x.cat ∧ x.from_ = i) → (bestGo i l k best).isSome = true)
 | [], k, best, _, hb => ⟨fun y hy => hb y hy, fun h => by
  rcases h with h | ⟨x, hx, _⟩
  ·exact h
  ·simp at hx⟩
 | x :: l, k, best, hd, hb => by
  have hk : items[k]? = some x := by
   have := congrArg (fun l => l[0]?) hd
   simpa using this
  have hd' : items.drop (k + 1) = l := by
   have := congrArg List.tail hd
   simpa using this
  unfold bestGo
  by_cases hc : (decide (0 ≤ x.cat) && (decide (x.from_ = i) && longer best x)) = true
  ·rw [if_pos hc]
   simp only [Bool.and_eq_true, decide_eq_true_eq] at hc
   have ih := bestGo_ok (items := items) (i := i) (l := l) (k := k + 1) (best := some (k, x)) hd' (fun y hy => by
    obtain rfl := Option.some.inj hy
    exact ⟨hk, hc.1, hc.2.1⟩)
   exact ⟨ih.1, fun _ => ih.2 (.inl rfl)⟩
  ·rw [if_neg hc]
   have ih := bestGo_ok (items := items) (i := i) (l := l) (k := k + 1) (best := best) hd' hb
   refine ⟨ih.1, fun h => ih.2 ?_⟩
   rcases h with h | ⟨z, hz, h1, h2⟩
   ·exact .inl h
   ·rcases List.mem_cons.1 hz with rfl | hz
    ·cases best with
     | some y => exact .inl rfl
     | none => exact absurd (by simp [longer, h1, h2]) hc
    ·exact .inr ⟨z, hz, h1, h2⟩
def leafW (x : ItemM) : List TargM := x.target.map fun s => targ s (span x.from_ x.until_) [] x.term
def coverGo (items : List ItemM) (n : Int) : Nat → Int → List TargM
 | 0, _ => []
 | m + 1, i => if i < n then (match bestGo i items 0 none with
   | none => coverGo items n m (i + 1)
   | some y => leafW y.2 ++ coverGo items n m y.2.until_) else []
theorem leafW_words {x : ItemM} (h : x.from_ < x.until_) (ht : x.target ≠ []) : WordsP (leafW x) [] x.from_ x.until_ := by
 have := WF.words (rules := []) (items := [x]) (n := 1) (t := .leaf 0 x.from_ x.until_) (.leaf (cat := x.cat) rfl rfl rfl rfl h ht) []
 have e : walkF [] [x] 1 (.leaf 0 x.from_ x.until_) [] = leafW x := by simp [walkF, leafW]
 rw [e] at this; exact this
theorem cover_words {items : List ItemM} {n : Int} (hI : ∀ x ∈ items, x.from_ < x.until_ ∧ x.until_ ≤ n ∧ x.target ≠ []) (hA : ∀ i, 0 ≤ i → i < n → ∃ x ∈ items, 0 ≤ x.cat ∧ x.from_ = i) : ∀ (m : Nat) (i : Int), 0 ≤ i → n - i ≤ m →
  (∀ x, i ≤ x → x < n → ∃ w ∈ coverGo items n m i, x ∈ w.deps) ∧ (∀ w ∈ coverGo items n m i, w.deps.Pairwise (· < ·) ∧ ∀ x ∈ w.deps, i ≤ x ∧ x < n)
 | 0, i, _, h => ⟨fun x h1 h2 => by omega, by simp [coverGo]⟩
 | m + 1, i, h0, h => by
  unfold coverGo
  by_cases hi : i < n
  ·rw [if_pos hi]
   obtain ⟨h1, h2⟩ := bestGo_ok (items := items) (i := i) (l := items) (k := 0) (best := none) rfl (fun y hy => by cases hy)
   have h3 := h2 (.inr (hA i h0 hi))
   cases hb : bestGo i items 0 none with
   | none => rw [hb] at h3; cases h3
   | some y =>
    obtain ⟨g1, g2, g3⟩ := h1 y hb
    have hy := hI y.2 (List.mem_of_getElem? g1)
    have hw := leafW_words hy.1 hy.2.2
    rw [g3] at hw
    obtain ⟨c1, c2⟩ := cover_words hI hA m y.2.until_ (by omega) (by omega)
    dsimp only
    refine ⟨fun x hx1 hx2 => ?_, fun w hw' => ?_⟩
    ·by_cases hx : x < y.2.until_
     ·obtain ⟨w, e1, e2⟩ := hw.all x hx1 hx
      exact ⟨w, List.mem_append.2 (.inl e1), e2⟩
     ·obtain ⟨w, e1, e2⟩ := c1 x (by omega) hx2
      exact ⟨w, List.mem_append.2 (.inr e1), e2⟩
    ·rcases List.mem_append.1 hw' with e | e
     ·refine ⟨hw.inc w e, fun x hx => ?_⟩
      rcases hw.only w e x hx with h | h
      ·omega
      ·simp at h
     ·obtain ⟨d1, d2⟩ := c2 w e
      exact ⟨d1, fun x hx => by have := d2 x hx; omega⟩
  ·rw [if_neg hi]
   exact ⟨fun x h1 h2 => by omega, by simp⟩
variable {rules : List RuleM}
def without (l : List TargM) (i : Int) : List TargM := l.filter fun w => !w.deps.contains i
structure AlikeP (a b : List ItemM) (i : Int) : Prop where
 len : a.length = b.length
 same : ∀ (k : Nat) (x y : ItemM), a[k]? = some x → b[k]? = some y → x.from_ = y.from_ ∧ x.until_ = y.until_ ∧ (¬ (x.from_ ≤ i ∧ i < x.until_) → x.target = y.target ∧ x.term = y.term)
theorem without_app (l m : List TargM) (i : Int) : without (l ++ m) i = without l i ++ without m i := by unfold without; rw [List.filter_append]
theorem without_flat {α : Type} (l : List α) (g h : α → List TargM) (i : Int) (e : ∀ x ∈ l, without (g x) i = without (h x) i) : without (l.flatMap g) i = without (l.flatMap h) i := by
 induction l with
 | nil => rfl
 | cons x l ih =>
  rw [List.flatMap_cons, List.flatMap_cons, without_app, without_app, e x (by simp), ih fun y hy => e y (List.mem_cons_of_mem _ hy)]
theorem without_none {l : List TargM} {i : Int} (h : ∀ w ∈ l, i ∈ w.deps) : without l i = [] := by
 unfold without
 rw [List.filter_eq_nil_iff]
 intro w hw
 have := h w hw
 simpa using this
theorem stable {a b : List ItemM} {i : Int} (h : AlikeP a b i) : ∀ (n : Nat) (t : Tree) (above : List Int), without (walkF rules a n t above) i = without (walkF rules b n t above) i
 | 0, _, _ => by simp [walkF]
 | n + 1, .leaf k f u, above => by
  cases hx : a[k]? with
  | none =>
   have hy : b[k]? = none := by
    rw [List.getElem?_eq_none_iff] at hx ⊢
    rw [← h.len]; exact hx
   simp only [walkF, hx, hy]
  | some x =>
   have hk := (List.getElem?_eq_some_iff.1 hx).1
   have hy : b[k]? = some (b[k]'(by rw [← h.len]; exact hk)) := List.getElem?_eq_getElem _
   obtain ⟨e1, e2, e3⟩ := h.same k x _ hx hy
   simp only [walkF, hx, hy]
   by_cases hi : x.from_ ≤ i ∧ i < x.until_
   ·rw [without_none, without_none]
    ·intro w hw
     obtain ⟨s, _, rfl⟩ := List.mem_map.1 hw
     unfold targ
     dsimp only
     rw [norm_mem, List.mem_append, span_mem]
     exact .inl (by omega)
    ·intro w hw
     obtain ⟨s, _, rfl⟩ := List.mem_map.1 hw
     unfold targ
     dsimp only
     rw [norm_mem, List.mem_append, span_mem]
     exact .inl hi
   ·obtain ⟨e4, e5⟩ := e3 hi
    rw [e1, e2, e4, e5]
 | n + 1, .node k f u ks, above => by
  cases hr : rules[k]? with
  | none => simp only [walkF, hr]
  | some r =>
   simp only [walkF, hr]
   refine without_flat _ _ _ _ fun y _ => ?_
   by_cases ht : y.text.size = 0
   ·rw [if_pos ht, if_pos ht]
    cases hk : kidAt r.parts ks y.part.toNat with
    | none => rfl
    | some c => exact stable h n c _
   ·rw [if_neg ht, if_neg ht]
end Go.Mine.C
namespace Go.Mine.P

abbrev L := List Int
def belowGo (m last : Int) : L → Bool
 | [] => true
 | x :: r => decide (last < x) && decide (x < m) && belowGo m x r
def below (l : L) (m : Int) : Bool := belowGo m (-1) l
theorem belowGo_iff (m : Int) : ∀ (l : L) (last : Int), belowGo m last l = true ↔ (∀ x ∈ l, last < x ∧ x < m) ∧ l.Pairwise (· < ·)
 | [], last => by simp [belowGo]
 | x :: r, last => by
  simp only [belowGo, Bool.and_eq_true, decide_eq_true_eq, belowGo_iff m r x, List.forall_mem_cons, List.pairwise_cons]
  constructor
  ·rintro ⟨⟨h1, h2⟩, h3, h4⟩
   exact ⟨⟨⟨h1, h2⟩, fun y hy => ⟨by have := (h3 y hy).1; omega, (h3 y hy).2⟩⟩, fun y hy => (h3 y hy).1, h4⟩
  ·rintro ⟨⟨⟨h1, h2⟩, h3⟩, h4, h5⟩
   exact ⟨⟨h1, h2⟩, fun y hy => ⟨h4 y hy, (h3 y hy).2⟩, h5⟩
theorem below_iff (l : L) (m : Int) : below l m = true ↔ (∀ x ∈ l, 0 ≤ x ∧ x < m) ∧ l.Pairwise (· < ·) := by
 unfold below
 rw [belowGo_iff]
 constructor
 ·rintro ⟨h1, h2⟩; exact ⟨fun x hx => ⟨by have := (h1 x hx).1; omega, (h1 x hx).2⟩, h2⟩
 ·rintro ⟨h1, h2⟩; exact ⟨fun x hx => ⟨by have := (h1 x hx).1; omega, (h1 x hx).2⟩, h2⟩
theorem sorted_eq : ∀ {a b : L}, a.Pairwise (· < ·) → b.Pairwise (· < ·) → (∀ x, x ∈ a ↔ x ∈ b) → a = b
 | [], [], _, _, _ => rfl
 | [], y :: s, _, _, h => by have := (h y).2 (by simp); cases this
 | x :: r, [], _, _, h => by have := (h x).1 (by simp); cases this
 | x :: r, y :: s, ha, hb, h => by
  obtain ⟨a1, a2⟩ := List.pairwise_cons.1 ha
  obtain ⟨b1, b2⟩ := List.pairwise_cons.1 hb
  have e : x = y := by
   have h1 := (h x).1 (by simp)
   have h2 := (h y).2 (by simp)
   rcases List.mem_cons.1 h1 with h1 | h1
   ·exact h1
   ·rcases List.mem_cons.1 h2 with h2 | h2
    ·exact h2.symm
    ·have := b1 x h1; have := a1 y h2; omega
  subst e
  congr 1
  refine sorted_eq a2 b2 fun z => ?_
  constructor
  ·intro hz
   rcases List.mem_cons.1 ((h z).1 (by simp [hz])) with rfl | h'
   ·have := a1 z hz; omega
   ·exact h'
  ·intro hz
   rcases List.mem_cons.1 ((h z).2 (by simp [hz])) with rfl | h'
   ·have := b1 z hz; omega
   ·exact h'
def rng (n : Int) : L := (List.range n.toNat).map Int.ofNat
theorem mem_rng {n x : Int} : x ∈ rng n ↔ 0 ≤ x ∧ x < n := by
 simp only [rng, List.mem_map, List.mem_range]
 constructor
 ·rintro ⟨a, h, rfl⟩; simp only [Int.ofNat_eq_natCast]; omega
 ·rintro ⟨h1, h2⟩; exact ⟨x.toNat, by omega, by simp only [Int.ofNat_eq_natCast]; omega⟩
theorem rng_sorted (n : Int) : (rng n).Pairwise (· < ·) := by
 unfold rng
 rw [List.pairwise_map]
 refine List.pairwise_lt_range.imp fun {a b} h => ?_
 simp only [Int.ofNat_eq_natCast]; omega
theorem rng_length (n : Int) : (rng n).length = n.toNat := by simp [rng]
theorem filter_below {n : Int} (p : Int → Bool) : below ((rng n).filter p) n = true := by
 rw [below_iff]
 exact ⟨fun x hx => mem_rng.1 (List.mem_filter.1 hx).1, (rng_sorted n).filter p⟩

/-! ### relations -/
def chk (r : List L) (n : Int) : Int := if 4096 < r.length then 2 else if n < 0 ∨ 4096 < n then 310 else if r.all (fun l => below l n) then 0 else 310
theorem chk_zero {r : List L} {n : Int} : chk r n = 0 ↔ r.length ≤ 4096 ∧ 0 ≤ n ∧ n ≤ 4096 ∧ ∀ l ∈ r, below l n = true := by
 unfold chk
 split
 ·constructor
  ·intro h; omega
  ·intro h; omega
 ·split
  ·constructor
   ·intro h; omega
   ·intro h; omega
  ·split
   ·rename_i h1 h2 h3
    rw [List.all_eq_true] at h3
    exact ⟨fun _ => ⟨by omega, by omega, by omega, h3⟩, fun _ => rfl⟩
   ·rename_i h1 h2 h3
    constructor
    ·intro h; omega
    ·intro h; exact absurd (List.all_eq_true.2 h.2.2.2) h3
def row (r : List L) (i : Int) : L := r.getD i.toNat []
theorem row_mem {r : List L} {i : Int} (h0 : 0 ≤ i) (h : i < r.length) : row r i ∈ r := by
 unfold row
 rw [List.getD_eq_getElem?_getD, List.getElem?_eq_getElem (by omega)]
 simp
def inAll (r : List L) (l : L) (s : Int) : Bool := l.any fun i => (row r i).contains s
theorem inAll_iff {r : List L} {l : L} {s : Int} : inAll r l s = true ↔ ∃ i ∈ l, s ∈ row r i := by simp [inAll]
def allL (r : List L) (n : Int) (l : L) : L := (rng n).filter (inAll r l)
theorem mem_allL {r : List L} {n : Int} {l : L} {s : Int} : s ∈ allL r n l ↔ (0 ≤ s ∧ s < n) ∧ ∃ i ∈ l, s ∈ row r i := by
 rw [allL, List.mem_filter, mem_rng, inAll_iff]
theorem allL_below (r : List L) (n : Int) (l : L) : below (allL r n l) n = true := filter_below _
def thenE (r s : List L) (n : Int) : Int := if chk r n = 0 then chk s r.length else chk r n
def thenL (r s : List L) (n : Int) : List L := if thenE r s n = 0 then s.map (allL r n) else []
def argE (r : List L) (n m : Int) (l : L) : Int := if chk r n = 0 then if below l m = true then 0 else 1 else chk r n
def meets (src x : L) : Bool := x.any fun k => src.contains k
theorem meets_iff {src x : L} : meets src x = true ↔ ∃ k ∈ x, k ∈ src := by simp [meets]
def reachL (r : List L) (n : Int) (src : L) : L := if argE r n n src = 0 then (rng r.length).filter (fun i => meets src (row r i)) else []
def backL (r : List L) (n : Int) (res : L) : L := if argE r n r.length res = 0 then allL r n res else []
theorem argE_zero {r : List L} {n m : Int} {l : L} : argE r n m l = 0 ↔ chk r n = 0 ∧ below l m = true := by
 unfold argE
 split
 ·split
  ·simp_all
  ·constructor
   ·intro h; omega
   ·intro h; simp_all
 ·simp_all
theorem thenE_zero {r s : List L} {n : Int} : thenE r s n = 0 ↔ chk r n = 0 ∧ chk s r.length = 0 := by
 unfold thenE
 split
 ·simp_all
 ·simp_all
theorem thenL_ok {r s : List L} {n : Int} (h : thenE r s n = 0) : thenL r s n = s.map (allL r n) := by unfold thenL; rw [if_pos h]
theorem reachL_ok {r : List L} {n : Int} {src : L} (h : argE r n n src = 0) : reachL r n src = (rng r.length).filter (fun i => meets src (row r i)) := by unfold reachL; rw [if_pos h]
theorem backL_ok {r : List L} {n : Int} {res : L} (h : argE r n r.length res = 0) : backL r n res = allL r n res := by unfold backL; rw [if_pos h]
theorem thenL_bad {r s : List L} {n : Int} (h : thenE r s n ≠ 0) : thenL r s n = [] := by unfold thenL; rw [if_neg h]
theorem reachL_bad {r : List L} {n : Int} {src : L} (h : argE r n n src ≠ 0) : reachL r n src = [] := by unfold reachL; rw [if_neg h]
theorem backL_bad {r : List L} {n : Int} {res : L} (h : argE r n r.length res ≠ 0) : backL r n res = [] := by unfold backL; rw [if_neg h]
theorem mem_reachL {r : List L} {n : Int} {src : L} (h : argE r n n src = 0) {i : Int} : i ∈ reachL r n src ↔ (0 ≤ i ∧ i < r.length) ∧ ∃ k ∈ row r i, k ∈ src := by
 rw [reachL_ok h, List.mem_filter, mem_rng, meets_iff]
theorem reachL_below {r : List L} {n : Int} {src : L} : below (reachL r n src) r.length = true := by
 by_cases h : argE r n n src = 0
 ·rw [reachL_ok h]; exact filter_below _
 ·rw [reachL_bad h]; rfl
theorem row_map {f : L → L} {s : List L} {i : Int} (h0 : 0 ≤ i) (h : i < s.length) : row (s.map f) i = f (row s i) := by
 unfold row
 rw [List.getD_eq_getElem?_getD, List.getD_eq_getElem?_getD, List.getElem?_map, List.getElem?_eq_getElem (by omega)]
 rfl
theorem thenL_chk {r s : List L} {n : Int} (h : thenE r s n = 0) : chk (thenL r s n) n = 0 ∧ (thenL r s n).length = s.length := by
 obtain ⟨h1, h2⟩ := thenE_zero.1 h
 rw [thenL_ok h]
 refine ⟨chk_zero.2 ⟨by simp; exact (chk_zero.1 h2).1, (chk_zero.1 h1).2.1, (chk_zero.1 h1).2.2.1, fun l hl => ?_⟩, by simp⟩
 obtain ⟨x, _, rfl⟩ := List.mem_map.1 hl
 exact allL_below _ _ _
/-! ### the laws -/
theorem steps_reach {r s : List L} {n : Int} {src : L} (h : thenE r s n = 0) (ha : argE r n n src = 0) :
  argE (thenL r s n) n n src = 0 ∧ argE s r.length r.length (reachL r n src) = 0 ∧ reachL (thenL r s n) n src = reachL s r.length (reachL r n src) := by
 obtain ⟨h1, h2⟩ := thenE_zero.1 h
 obtain ⟨c1, c2⟩ := thenL_chk h
 have a1 : argE (thenL r s n) n n src = 0 := argE_zero.2 ⟨c1, (argE_zero.1 ha).2⟩
 have a2 : argE s r.length r.length (reachL r n src) = 0 := argE_zero.2 ⟨h2, reachL_below⟩
 refine ⟨a1, a2, sorted_eq ((below_iff _ _).1 reachL_below).2 ((below_iff _ _).1 reachL_below).2 fun i => ?_⟩
 rw [mem_reachL a1, mem_reachL a2, c2]
 refine and_congr_right fun hi => ?_
 rw [thenL_ok h, row_map hi.1 hi.2]
 have hb := (below_iff _ _).1 ((chk_zero.1 h2).2.2.2 _ (row_mem hi.1 hi.2))
 constructor
 ·rintro ⟨k, hk, hs⟩
  obtain ⟨_, j, hj, hkj⟩ := mem_allL.1 hk
  exact ⟨j, hj, (mem_reachL ha).2 ⟨hb.1 j hj, k, hkj, hs⟩⟩
 ·rintro ⟨j, hj, hjr⟩
  obtain ⟨hj2, k, hk, hs⟩ := (mem_reachL ha).1 hjr
  have hkn := ((below_iff _ _).1 ((chk_zero.1 h1).2.2.2 _ (row_mem hj2.1 hj2.2))).1 k hk
  exact ⟨k, mem_allL.2 ⟨hkn, j, hj, hk⟩, hs⟩
theorem there_back {r : List L} {n : Int} {res : L} {s : Int} (h : argE r n r.length res = 0) (h0 : 0 ≤ s) (hn : s < n) :
  argE r n n [s] = 0 ∧ (reachL r n [s]).any (fun i => res.contains i) = (backL r n res).contains s := by
 obtain ⟨h1, h2⟩ := argE_zero.1 h
 have a1 : argE r n n [s] = 0 := argE_zero.2 ⟨h1, (below_iff _ _).2 ⟨by simp; omega, by simp⟩⟩
 refine ⟨a1, ?_⟩
 have hr := ((below_iff _ _).1 h2).1
 rw [Bool.eq_iff_iff]
 simp only [List.any_eq_true, List.contains_iff_mem]
 rw [backL_ok h, mem_allL]
 constructor
 ·rintro ⟨i, hi, hir⟩
  obtain ⟨_, k, hk, hs⟩ := (mem_reachL a1).1 hi
  obtain rfl : k = s := by simpa using hs
  exact ⟨⟨h0, hn⟩, i, hir, hk⟩
 ·rintro ⟨_, i, hir, hs⟩
  exact ⟨i, (mem_reachL a1).2 ⟨hr i hir, s, hs, by simp⟩, hir⟩
/-! ### three relations -/
def own (n : Int) : List L := (rng n).map fun i => [i]
/-! ### more sources -/
theorem one_of {r : List L} {n : Int} {src : L} (h : argE r n n src = 0) {k : Int} (hk : k ∈ src) : argE r n n [k] = 0 := by
 obtain ⟨h1, h2⟩ := argE_zero.1 h
 have := ((below_iff _ _).1 h2).1 k hk
 exact argE_zero.2 ⟨h1, (below_iff _ _).2 ⟨by simp; omega, by simp⟩⟩
theorem together {r : List L} {n : Int} {src : L} (h : argE r n n src = 0) (i : Int) :
  (src.any fun k => (reachL r n [k]).contains i) = (reachL r n src).contains i := by
 rw [Bool.eq_iff_iff]
 simp only [List.any_eq_true, List.contains_iff_mem]
 constructor
 ·rintro ⟨k, hk, hik⟩
  obtain ⟨hi2, j, hj, hs⟩ := (mem_reachL (one_of h hk)).1 hik
  obtain rfl : j = k := by simpa using hs
  exact (mem_reachL h).2 ⟨hi2, j, hj, hk⟩
 ·intro hm
  obtain ⟨hi2, k, hk, hs⟩ := (mem_reachL h).1 hm
  exact ⟨k, hs, (mem_reachL (one_of h hs)).2 ⟨hi2, k, hk, by simp⟩⟩
theorem belowGo_length (m : Int) : ∀ (l : L) (last : Int), belowGo m last l = true → l = [] ∨ (l.length : Int) ≤ m - 1 - last
 | [], _, _ => .inl rfl
 | x :: r, last, h => by
  simp only [belowGo, Bool.and_eq_true, decide_eq_true_eq] at h
  obtain ⟨⟨h1, h2⟩, h3⟩ := h
  refine .inr ?_
  rcases belowGo_length m r x h3 with rfl | h4
  ·simp; omega
  ·simp only [List.length_cons]; omega
theorem below_length {l : L} {m : Int} (h : below l m = true) : l = [] ∨ (l.length : Int) ≤ m := by
 rcases belowGo_length m l (-1) h with h | h
 ·exact .inl h
 ·exact .inr (by omega)
theorem below_le {l : L} {m : Int} (h : below l m = true) (hm : m ≤ 4096) : l.length ≤ 4096 := by
 rcases below_length h with rfl | h
 ·simp
 ·omega
theorem rng_succ (k : Nat) : rng ((k : Int) + 1) = rng k ++ [(k : Int)] := by
 unfold rng
 rw [show ((k : Int) + 1).toNat = k + 1 by omega, Int.toNat_natCast, List.range_succ, List.map_append]
 rfl
end Go.Mine.P
