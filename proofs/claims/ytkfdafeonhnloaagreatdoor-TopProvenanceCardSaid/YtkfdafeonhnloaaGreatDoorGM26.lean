/-
  The law, plainly: each source word counts; there and back; through the slots; the words that stay.
  chart.Best on what tags.Items gives.
-/
import Derived.Test.YtkfdafeonhnloaaGreatDoorF9
import Derived.Test.YtkfdafeonhnloaaGreatDoorGM25
import Derived.Test.YtkfdafeonhnloaaGreatDoorGM14
import Derived.Test.YtkfdafeonhnloaaGreatDoorH1
namespace Go.Mine.C
open Go.RowKit Go.Mine
section
variable {rules : List RuleM} {items : List ItemM} {has : Int → Str → Bool}
def HasTree (x : Found) : Prop := x.ok = true → x.tree.isSome = true
theorem HasTree.take {x : Found} (h : HasTree x) (cost many : Int) (t : Tree) : HasTree (x.take cost many t) := fun _ => by
 rcases Found.take_tree x cost many t with e | ⟨e1, e2⟩
 ·rw [e]; rfl
 ·rw [e2]; exact h e1
theorem find_some : ∀ (n : Nat) (cat f u : Int), HasTree (findF rules items has n cat f u)
 | 0, cat, f, u => fun h => by simp [findF, Found.none] at h
 | n + 1, cat, f, u => by
  unfold findF rulesF phrasesF
  refine fold_good (P := HasTree) (fold_good (P := HasTree) (fun h => by simp [Found.none] at h) fun x y _ hx => ?_) fun x y _ hx => ?_
  ·split
   ·exact hx.take _ _ _
   ·exact hx
  ·split
   ·refine fold_good (P := HasTree) hx fun x ends _ hx => ?_
    cases kidsGo (findF rules items has n) y.1.parts ends f y.1.cost 1 [] with
    | none => exact hx
    | some r =>
     obtain ⟨cost, many, ks⟩ := r
     unfold takeKids
     dsimp only
     split
     ·exact hx.take _ _ _
     ·exact hx
   ·exact hx
end
structure GoodT (T : List TargM) (n : Nat) : Prop where
 len : T.length ≤ 4096
 inc : ∀ x ∈ T, x.deps.Pairwise (· < ·)
 rng : ∀ x ∈ T, ∀ d ∈ x.deps, 0 ≤ d ∧ d < (n : Int)
 all : ∀ s, 0 ≤ s → s < (n : Int) → ∃ x ∈ T, s ∈ x.deps
section
variable {g : GramH} {lang at_ known : Int} {l : List TermH} {words : List Str}
theorem transL_tree {items : List ItemM} {t : Tree} (ho : (foundT g words items).ok = true) (ht : (foundT g words items).tree = some t) : transL g words items = walkF (g.rules.map RuleH.m) items 600 t [] := by
 unfold transL
 rw [if_pos ho, ht]
theorem TakenP.good (h : TakenP g lang at_ known l words) (h6 : words.length ≤ 6) : GoodT (transL g words (itemsW g lang at_ known l words)) words.length := by
 cases ho : (foundT g words (itemsW g lang at_ known l words)).ok
 ·have e : transL g words (itemsW g lang at_ known l words) = coverGo (itemsW g lang at_ known l words) words.length words.length 0 := by
   unfold transL
   rw [if_neg (by rw [ho]; decide)]
  rw [e]
  have hI : ∀ x ∈ itemsW g lang at_ known l words, x.from_ < x.until_ ∧ x.until_ ≤ (words.length : Int) ∧ x.target ≠ [] := fun x hx => by
   have := h.item x hx
   exact ⟨this.place.2.1, this.place.2.2.1, fun e => by have := this.many.1; rw [e] at this; simp at this⟩
  obtain ⟨c1, c2⟩ := cover_words hI (itemsL_cover h.gram h.tm h.words) words.length 0 (Int.le_refl _) (by omega)
  have c3 := cover_len (items := itemsW g lang at_ known l words) (n := (words.length : Int)) (fun x hx => (h.item x hx).many.2) words.length 0
  exact ⟨by omega, fun x hx => (c2 x hx).1, fun x hx d hd => by have := (c2 x hx).2 d hd; omega, fun s h0 h1 => c1 s h0 h1⟩
 ·have hs := find_some (rules := g.rules.map RuleH.m) (items := itemsW g lang at_ known l words) (has := hasW (wsTo words words.length)) 600 g.startNo 0 words.length ho
  obtain ⟨t, ht⟩ := Option.isSome_iff_exists.1 hs
  have hwf := h.wf ho ht
  rw [transL_tree ho ht]
  have hw := WF.words hwf []
  have hl := h.len hwf
  refine ⟨by omega, hw.inc, fun x hx d hd => ?_, fun s h0 h1 => hw.all s h0 h1⟩
  rcases hw.only x hx d hd with h | h
  ·exact h
  ·cases h
end
section
variable {T : List TargM} {n : Nat}
def depsOf (T : List TargM) : List (List Int) := T.map TargM.deps
theorem depsOf_len (T : List TargM) : (depsOf T).length = T.length := List.length_map _
theorem depsOf_row {k : Nat} {x : TargM} (h : T[k]? = some x) : P.row (depsOf T) (k : Int) = x.deps := by
 unfold P.row depsOf
 rw [List.getD_eq_getElem?_getD, Int.toNat_natCast, List.getElem?_map, h]
 rfl
theorem GoodT.below (h : GoodT T n) : ∀ x ∈ T, P.below x.deps n = true := fun x hx => (P.below_iff _ _).2 ⟨h.rng x hx, h.inc x hx⟩
theorem GoodT.chk (h : GoodT T n) (hn : n ≤ 4096) : P.chk (depsOf T) n = 0 := P.chk_zero.2 ⟨by rw [depsOf_len]; exact h.len, by omega, by omega, fun l hl => by
 obtain ⟨x, hx, rfl⟩ := List.mem_map.1 hl
 exact h.below x hx⟩
theorem GoodT.arg (h : GoodT T n) (hn : n ≤ 4096) {m : Int} {l : List Int} (hl : P.below l m = true) : P.argE (depsOf T) n m l = 0 := P.argE_zero.2 ⟨h.chk hn, hl⟩
theorem rng_below (n : Nat) : P.below (P.rng n) n = true := (P.below_iff _ _).2 ⟨fun x hx => P.mem_rng.1 hx, P.rng_sorted _⟩
theorem one_below {i : Int} {n : Int} (h : 0 ≤ i ∧ i < n) : P.below [i] n = true := by
 refine (P.below_iff _ _).2 ⟨fun x hx => ?_, by simp⟩
 obtain rfl : x = i := by simpa using hx
 exact h
theorem GoodT.back_all (h : GoodT T n) (hn : n ≤ 4096) : P.argE (depsOf T) n (depsOf T).length (P.rng (T.length : Nat)) = 0 ∧ (P.backL (depsOf T) n (P.rng (T.length : Nat))).length = n := by
 have ha := h.arg hn (m := (depsOf T).length) (l := P.rng (T.length : Nat)) (by rw [depsOf_len]; exact rng_below _)
 refine ⟨ha, ?_⟩
 rw [P.backL_ok ha]
 have e : P.allL (depsOf T) n (P.rng (T.length : Nat)) = P.rng n := by
  refine P.sorted_eq ((P.below_iff _ _).1 (P.allL_below _ _ _)).2 (P.rng_sorted _) fun s => ?_
  rw [P.mem_allL, P.mem_rng]
  constructor
  ·exact fun h => h.1
  ·intro hs
   obtain ⟨x, hx, hsx⟩ := h.all s hs.1 hs.2
   obtain ⟨k, hk⟩ := List.mem_iff_getElem?.1 hx
   have hkl := (List.getElem?_eq_some_iff.1 hk).1
   exact ⟨hs, (k : Int), P.mem_rng.2 ⟨by omega, by omega⟩, by rw [depsOf_row hk]; exact hsx⟩
 rw [e, P.rng_length]
 omega
theorem GoodT.reach_one (h : GoodT T n) (hn : n ≤ 4096) {i : Int} (hi : 0 ≤ i ∧ i < (n : Int)) : P.argE (depsOf T) n n [i] = 0 ∧ P.reachL (depsOf T) n [i] ≠ [] := by
 have ha := h.arg hn (m := n) (one_below hi)
 refine ⟨ha, fun e => ?_⟩
 obtain ⟨x, hx, hsx⟩ := h.all i hi.1 hi.2
 obtain ⟨k, hk⟩ := List.mem_iff_getElem?.1 hx
 have hkl := (List.getElem?_eq_some_iff.1 hk).1
 have : (k : Int) ∈ P.reachL (depsOf T) n [i] := (P.mem_reachL ha).2 ⟨⟨by omega, by rw [depsOf_len]; omega⟩, i, by rw [depsOf_row hk]; exact hsx, by simp⟩
 rw [e] at this; cases this
theorem GoodT.back_one (h : GoodT T n) (hn : n ≤ 4096) {k : Nat} {x : TargM} (hk : T[k]? = some x) : P.argE (depsOf T) n (depsOf T).length [(k : Int)] = 0 ∧ P.backL (depsOf T) n [(k : Int)] = x.deps := by
 have hkl := (List.getElem?_eq_some_iff.1 hk).1
 have hx := List.mem_of_getElem? hk
 have ha := h.arg hn (m := (depsOf T).length) (one_below (i := (k : Int)) ⟨by omega, by rw [depsOf_len]; omega⟩)
 refine ⟨ha, ?_⟩
 rw [P.backL_ok ha]
 refine P.sorted_eq ((P.below_iff _ _).1 (P.allL_below _ _ _)).2 (h.inc x hx) fun s => ?_
 rw [P.mem_allL]
 constructor
 ·rintro ⟨_, i, hi, hs⟩
  obtain rfl : i = (k : Int) := by simpa using hi
  rwa [depsOf_row hk] at hs
 ·exact fun hs => ⟨h.rng x hx s hs, (k : Int), by simp, by rw [depsOf_row hk]; exact hs⟩
theorem GoodT.there_back (h : GoodT T n) (hn : n ≤ 4096) {i : Int} (hi : 0 ≤ i ∧ i < (n : Int)) {k : Nat} {x : TargM} (hk : T[k]? = some x) : (P.reachL (depsOf T) n [i]).contains (k : Int) = x.deps.contains i := by
 have ha := h.arg hn (m := n) (one_below hi)
 have hkl := (List.getElem?_eq_some_iff.1 hk).1
 rw [Bool.eq_iff_iff, List.contains_iff_mem, List.contains_iff_mem, P.mem_reachL ha, depsOf_row hk, depsOf_len]
 constructor
 ·rintro ⟨_, j, hj, h2⟩
  obtain rfl : j = i := by simpa using h2
  exact hj
 ·exact fun h2 => ⟨⟨by omega, by omega⟩, i, h2, by simp⟩
def fromL (slots : List Int) (n : Nat) : List (List Int) := (slots.take n).map fun s => [s % 3]
theorem fromL_len {slots : List Int} (h : n ≤ slots.length) : (fromL slots n).length = n := by unfold fromL; rw [List.length_map, List.length_take]; omega
theorem from_chk {slots : List Int} (h : n ≤ slots.length) (hn : n ≤ 4096) : P.chk (fromL slots n) 3 = 0 := P.chk_zero.2 ⟨by rw [fromL_len h]; exact hn, by omega, by omega, fun l hl => by
 obtain ⟨s, _, rfl⟩ := List.mem_map.1 hl
 exact one_below ⟨by omega, by omega⟩⟩
theorem GoodT.then_ (h : GoodT T n) (hn : n ≤ 4096) {slots : List Int} (hs : n ≤ slots.length) : P.thenE (fromL slots n) (depsOf T) 3 = 0 ∧ (P.thenL (fromL slots n) (depsOf T) 3).length = T.length := by
 have ht : P.thenE (fromL slots n) (depsOf T) 3 = 0 := P.thenE_zero.2 ⟨from_chk hs hn, by rw [fromL_len hs]; exact h.chk hn⟩
 exact ⟨ht, by rw [(P.thenL_chk ht).2, depsOf_len]⟩
theorem GoodT.through (h : GoodT T n) (hn : n ≤ 4096) {slots : List Int} (hs : n ≤ slots.length) {k : Int} (hk : 0 ≤ k ∧ k < 3) :
  P.argE (P.thenL (fromL slots n) (depsOf T) 3) 3 3 [k] = 0 ∧ P.argE (fromL slots n) 3 3 [k] = 0 ∧ P.argE (depsOf T) n n (P.reachL (fromL slots n) 3 [k]) = 0 ∧ P.reachL (P.thenL (fromL slots n) (depsOf T) 3) 3 [k] = P.reachL (depsOf T) n (P.reachL (fromL slots n) 3 [k]) := by
 obtain ⟨h1, _⟩ := h.then_ hn hs
 have ha : P.argE (fromL slots n) 3 3 [k] = 0 := P.argE_zero.2 ⟨from_chk hs hn, one_below hk⟩
 have := P.steps_reach h1 ha
 rw [fromL_len hs] at this
 exact ⟨this.1, ha, this.2.1, this.2.2⟩
end
section
variable {g : GramH} {lang at_ known : Int} {l : List TermH} {words changed : List Str}
theorem pre_len (h : words.length = changed.length) : preI g lang at_ known l words = preI g lang at_ known l changed := by unfold preI; rw [h]
theorem TakenP.few_items (h : TakenP g lang at_ known l words) (h6 : words.length ≤ 6) (hc : g.cats.length ≤ 6) (hf : fewG g) : (itemsW g lang at_ known l words).length ≤ 1024 := by
 have h1 := itemsL_len (tmOf (standL lang at_ known l)) g words
 have h2 := h.gram.ents
 have h3 : g.entries.length ≤ 40 := by unfold fewG at hf; omega
 have h4 : words.length * (5 + g.entries.length + g.cats.length) ≤ 6 * (5 + 40 + 6) := Nat.mul_le_mul h6 (by omega)
 have : (itemsW g lang at_ known l words).length ≤ words.length * (5 + g.entries.length + g.cats.length) := h1
 omega
theorem stays {i : Nat} (hl : words.length = changed.length) (hs : ∀ j, j ≠ i → words[j]? = changed[j]?) (hk : (itemsW g lang at_ known l words).map keyI = (itemsW g lang at_ known l changed).map keyI) {t : Tree}
  (h1 : (foundT g words (itemsW g lang at_ known l words)).ok = true) (h2 : (foundT g words (itemsW g lang at_ known l words)).tree = some t) (h3 : (foundT g changed (itemsW g lang at_ known l changed)).ok = true) (h4 : (foundT g changed (itemsW g lang at_ known l changed)).tree = some t) :
  without (transL g words (itemsW g lang at_ known l words)) i = without (transL g changed (itemsW g lang at_ known l changed)) i := by
 rw [transL_tree h1 h2, transL_tree h3 h4]
 exact stable (items_alike hl hs hk) 600 t []
end
end Go.Mine.C
namespace Go.Mine.C
open Go.RowKit Go.Mine
theorem filter_m (ts : List TargH) (i : Int) : (ts.filter (fun x => !x.deps.contains i)).map TargH.m = without (ts.map TargH.m) i := by
 unfold without
 rw [List.filter_map]
 rfl
end Go.Mine.C
namespace Go.Proofs.YtkfdafeonhnloaaGreatDoor
open Go.RowKit Go.Shelf Go.Mine Go.Mine.C
theorem best_taken (g : GramH) (lang at_ known : Int) (l : List TermH) (words : List ByteArray) (iA : Option Addr) (iC : Nat) (is : List ItemH) (w : World) (hT : TakenP g lang at_ known l words) (hn : 1 ≤ words.length) (hG : GramOk w g) (hgs : GramS g) (hE : Env w) (hi : Sl itemC 6 w iA iC is) (him : is.map ItemH.m = itemsW g lang at_ known l words) (hio : ∀ x ∈ is, ItemOk w x) (hl : (itemsW g lang at_ known l words).length ≤ 1024) :
  Calls Tryz.prog 15 #[gramV g, .slice iA is.length iC, .int .i64 words.length] w fun e w' => ∃ h, e = .returned (.tuple #[treeV h, .int .i64 (foundT g words (itemsW g lang at_ known l words)).cost, .bool (foundT g words (itemsW g lang at_ known l words)).ok, .int .i64 0]) ∧
   FoundR (fun _ => False) w' (foundT g words (itemsW g lang at_ known l words)) h ∧ Below w.heap.size w w' := by
 have hil : is.length ≤ 1024 := by rw [← him, List.length_map] at hl; exact hl
 have hIO := items_ok (w := w) hT.gram hT.tm hT.words (by rw [him]; rfl) hio
 have KB := best15 g iA iC is words w hG hgs hT.ok hi hIO hE ⟨hn, hT.few⟩ (by omega) 33 (rkOf g) hT.gram.rank 600 (by decide) hT.gram.parts
  (fun r hr p hp => by have := hT.gram.partNo r hr p hp; unfold I64; omega) (by have := hT.gram.startNo; unfold I64; omega) hT.gram.goals
 rw [him] at KB
 exact KB
theorem items_taken (g : GramH) (lA : Option Addr) (lC : Nat) (l : List TermH) (lang : Int) (wA : Option Addr) (wC : Nat) (words : List ByteArray) (at_ known : Int) (w : World) (hG : GramOk w g) (hgs : GramS g) (hl : Sl termC 8 w lA lC l) (hlo : ∀ x ∈ l, TermOk w x) (hw : Sl sc 1 w wA wC words) (hE : Env w) (hpre : preI g lang at_ known l words = true) (hall : words.all wordB = true) (hlen : (itemsW g lang at_ known l words).length ≤ 1024) :
  Calls Tryz.prog 13 #[gramV g, .slice lA l.length lC, .int .i64 lang, .slice wA words.length wC, .int .i64 at_, .int .i64 known] w fun e w' => ∃ iA iC is, e = .returned (.tuple #[.slice iA (List.length is) iC, .int .i64 0]) ∧ Sl itemC 6 w' iA iC is ∧ is.map ItemH.m = itemsW g lang at_ known l words ∧ (∀ x ∈ is, ItemOk w' x) ∧ Below w.heap.size w w' := by
 refine (items13 g lA lC l lang wA wC words at_ known w hG hgs hl hlo hw hE).mono ?_
 rintro e w' ⟨⟨v, er, rfl, _, _, _, p4, p5⟩, hb⟩
 have he : er = 0 := (p4 hpre hall).1 hlen
 subst he
 obtain ⟨is, ho, hm, hi⟩ := p5 rfl
 obtain ⟨iA, iC, rfl, hs⟩ := ho.sl
 exact ⟨iA, iC, is, rfl, hs, hm, fun x hx => (hi x hx).so.sl, hb⟩
end Go.Proofs.YtkfdafeonhnloaaGreatDoor
