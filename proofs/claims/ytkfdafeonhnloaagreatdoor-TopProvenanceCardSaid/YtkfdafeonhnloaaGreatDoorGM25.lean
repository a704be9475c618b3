/-
  What tags.Items gives, plainly: right items; how many; what one other word changes.
  One word is replaced, the phrases are of the same kinds: over other words they are the same.
-/
import Derived.Test.YtkfdafeonhnloaaGreatDoorE1
import Derived.Test.YtkfdafeonhnloaaGreatDoorGM22
import Derived.Test.YtkfdafeonhnloaaGreatDoorD15
import Derived.Test.YtkfdafeonhnloaaGreatDoorGM14
namespace Go.Mine.C
open Go.RowKit Go.Mine
theorem nm_lt {c : Nat} (h : nmB c = true) : 48 ≤ c ∧ c ≤ 122 := by
 unfold nmB letB digB at h
 simp only [Bool.or_eq_true, Bool.and_eq_true, decide_eq_true_eq] at h
 omega
theorem free_pos {s : Str} (h : freeB s = true) : 0 < s.size := by
 unfold freeB nameB at h
 simp only [Bool.and_eq_true, decide_eq_true_eq] at h
 exact h.1.1.1.1
theorem free_word {s : Str} (h : freeB s = true) : wordB s = true := by
 unfold freeB nameB at h
 simp only [Bool.and_eq_true, decide_eq_true_eq, List.all_eq_true] at h
 obtain ⟨⟨⟨⟨h1, h2⟩, h3⟩, h4⟩, _⟩ := h
 obtain ⟨k1, k2⟩ := pts_ascii s.size s (fun b hb => by have := nm_lt (h4 b hb); omega) (Nat.le_refl _)
 have hn : ((ptsGo s.size s).1.any spB) = false := by
  rw [List.any_eq_false]
  intro r hr hs
  obtain ⟨b, hb, rfl⟩ := k2 r hr
  have := nm_lt (h4 b hb)
  unfold spB at hs
  simp only [Bool.or_eq_true, beq_iff_eq] at hs
  omega
 unfold wordB pts
 rw [k1, decide_eq_true h1, decide_eq_true (show s.size ≤ 64 by omega), hn]
 rfl
theorem idxGo_in (s : Str) : ∀ (l : List Str) (k : Int), 0 ≤ k → 0 ≤ idxGo s l k → s ∈ l ∧ idxGo s l k < k + (l.length : Int)
 | [], k, _, h => by unfold idxGo at h; omega
 | x :: l, k, hk, h => by
  unfold idxGo at h ⊢
  by_cases e : (s.toList == x.toList) = true
  ·rw [if_pos e]
   refine ⟨?_, by rw [List.length_cons]; omega⟩
   have : s = x := by
    apply Classical.byContradiction
    intro hn
    rw [str_beq hn] at e; cases e
   rw [this]; simp
  ·rw [if_neg e] at h ⊢
   obtain ⟨h1, h2⟩ := idxGo_in s l (k + 1) (by omega) h
   exact ⟨List.mem_cons_of_mem _ h1, by rw [List.length_cons]; omega⟩
structure ItOkM (cats n : Nat) (x : ItemM) : Prop where
 place : 0 ≤ x.from_ ∧ x.from_ < x.until_ ∧ x.until_ ≤ (n : Int) ∧ -1 ≤ x.term ∧ x.term ≤ 1048576
 many : 1 ≤ x.target.length ∧ x.target.length ≤ 4
 words : x.target.all wordB = true
 base : x.cat = -1 → x.until_ = x.from_ + 1 ∧ x.cost = 0 ∧ x.target.length = 1
 other : x.cat ≠ -1 → 0 ≤ x.cat ∧ x.cat < (cats : Int) ∧ 0 ≤ x.cost ∧ x.cost ≤ 1000
theorem ItOkM.of {cats n : Nat} {x : ItemH} (h : ItOkM cats n x.m) : ItOk cats n x := ⟨h.place, h.many, h.words, h.base, h.other⟩
section
variable {g : GramH} {tm : SMap} {words : List Str}
theorem termM_mem (hG : GramP g) (hT : ∀ s x, tm s = some x → rightB x = true) {i many : Nat} (hm : 1 ≤ many) {y : ItemM} (h : y ∈ termM tm g.cats words i many) : ItOkM g.cats.length words.length y ∧ y.cat ≠ -1 ∧ y.from_ = (i : Int) := by
 unfold termM at h
 obtain ⟨z, hz, rfl⟩ := List.mem_map.1 h
 unfold termH at hz
 split at hz
 ·cases hz
 ·rename_i hlen
  split at hz
  ·cases hz
  ·rename_i x hx
   split at hz
   ·rename_i hc
    obtain rfl : z = _ := by simpa using hz
    obtain ⟨h1, h2⟩ := idxGo_in x.cat g.cats 0 (by decide) hc
    have hr := hT _ x hx
    have hfr := free_pos (hG.free _ h1)
    unfold rightB goneB at hr
    simp only [Bool.and_eq_true, decide_eq_true_eq] at hr
    obtain ⟨r1, r2, _, _, _, _, r3⟩ := hr
    have hng : ¬ x.gone = true := fun hg => by
     rw [if_pos hg] at r3
     simp only [Bool.and_eq_true, decide_eq_true_eq] at r3
     omega
    rw [if_neg hng, Bool.and_eq_true] at r3
    obtain ⟨p1, p2, p3⟩ := phrase_word r3.1
    have hcat : 0 ≤ idxL g.cats x.cat ∧ idxL g.cats x.cat < (g.cats.length : Int) := ⟨hc, by unfold idxL; omega⟩
    refine ⟨⟨?_, ⟨p1, p2⟩, List.all_eq_true.2 p3, fun e => ?_, fun _ => ⟨hcat.1, hcat.2, ?_, ?_⟩⟩, fun e => ?_, rfl⟩
    ·show 0 ≤ (i : Int) ∧ (i : Int) < (i : Int) + many ∧ (i : Int) + many ≤ (words.length : Int) ∧ -1 ≤ x.no ∧ x.no ≤ 1048576
     omega
    ·have : idxL g.cats x.cat = -1 := e
     omega
    ·exact Int.le_refl _
    ·show (0 : Int) ≤ 1000
     decide
    ·have : idxL g.cats x.cat = -1 := e
     omega
   ·cases hz
theorem entM_mem (hG : GramP g) {i : Nat} (hi : i < words.length) {u : Str} {y : ItemM} (h : y ∈ entM u i g.entries) : ItOkM g.cats.length words.length y ∧ y.cat ≠ -1 ∧ y.from_ = (i : Int) := by
 unfold entM entI at h
 obtain ⟨z, hz, rfl⟩ := List.mem_map.1 h
 obtain ⟨x, hx, rfl⟩ := List.mem_map.1 hz
 obtain ⟨h1, h2⟩ := hG.ent x (List.mem_filter.1 hx).1
 unfold entB inB at h1
 simp only [Bool.and_eq_true, decide_eq_true_eq, List.all_eq_true] at h1
 obtain ⟨e1, e2, ⟨e3, e4⟩, e5, e6, e7⟩ := h1
 have hc := idxF_bd e2
 refine ⟨⟨?_, ?_, List.all_eq_true.2 fun s hs => free_word (e5 s hs), fun e => ?_, fun _ => ⟨?_, ?_, e6, e7⟩⟩, fun e => ?_, rfl⟩
 ·show 0 ≤ (i : Int) ∧ (i : Int) < (i : Int) + 1 ∧ (i : Int) + 1 ≤ (words.length : Int) ∧ -1 ≤ (-1 : Int) ∧ (-1 : Int) ≤ 1048576
  omega
 ·show 1 ≤ x.gives.length ∧ x.gives.length ≤ 4
  omega
 ·have : x.catNo = -1 := e
  omega
 ·show 0 ≤ x.catNo
  omega
 ·show x.catNo < _
  omega
 ·have : x.catNo = -1 := e
  omega
theorem unkL_mem {i : Nat} (hi : i < words.length) {u : Str} (hu : wordB u = true) {y : ItemM} (h : y ∈ unkL g.cats u i) : ItOkM g.cats.length words.length y ∧ y.cat ≠ -1 ∧ y.from_ = (i : Int) := by
 unfold unkL at h
 obtain ⟨k, hk, rfl⟩ := List.mem_map.1 h
 rw [List.mem_range] at hk
 refine ⟨⟨?_, ⟨Nat.le_refl _, by show 1 ≤ 4; decide⟩, by show ([u].all wordB) = true; simp [hu], fun e => ?_, fun _ => ⟨?_, ?_, ?_, ?_⟩⟩, fun e => ?_, rfl⟩
 ·show 0 ≤ (i : Int) ∧ (i : Int) < (i : Int) + 1 ∧ (i : Int) + 1 ≤ (words.length : Int) ∧ -1 ≤ (-1 : Int) ∧ (-1 : Int) ≤ 1048576
  omega
 ·have : (k : Int) = -1 := e
  omega
 ·show 0 ≤ (k : Int)
  omega
 ·show (k : Int) < _
  omega
 ·show (0 : Int) ≤ 100
  decide
 ·show (100 : Int) ≤ 1000
  decide
 ·have : (k : Int) = -1 := e
  omega
theorem foundM_mem (hG : GramP g) (hT : ∀ s x, tm s = some x → rightB x = true) {i : Nat} (hi : i < words.length) {u : Str} {y : ItemM} (h : y ∈ foundM tm g words i u) : ItOkM g.cats.length words.length y ∧ y.cat ≠ -1 ∧ y.from_ = (i : Int) := by
 unfold foundM at h
 rcases List.mem_append.1 h with h | h
 ·exact termM_mem hG hT (by decide) h
 ·exact entM_mem hG hi h
theorem placeM_mem (hG : GramP g) (hT : ∀ s x, tm s = some x → rightB x = true) {i : Nat} (hi : i < words.length) {u : Str} (hu : wordB u = true) {y : ItemM} (h : y ∈ placeM tm g words i u) : ItOkM g.cats.length words.length y ∧ y.cat ≠ -1 ∧ y.from_ = (i : Int) := by
 unfold placeM at h
 rw [List.mem_append, List.mem_append, List.mem_append, List.mem_append] at h
 rcases h with h | h | h | h | h
 ·exact foundM_mem hG hT hi h
 ·split at h
  ·exact unkL_mem hi hu h
  ·cases h
 ·exact termM_mem hG hT (by decide) h
 ·exact termM_mem hG hT (by decide) h
 ·exact termM_mem hG hT (by decide) h
theorem placeM_some (hG : GramP g) (tm : SMap) (i : Nat) (u : Str) : placeM tm g words i u ≠ [] := by
 intro h
 unfold placeM at h
 rw [List.append_eq_nil_iff] at h
 rw [if_pos h.1, List.append_eq_nil_iff] at h
 have := congrArg List.length h.2.1
 rw [unkL_len] at this
 have h2 := idxF_bd hG.start.1
 simp only [List.length_nil] at this
 omega
theorem placesGo_mem (hG : GramP g) (hT : ∀ s x, tm s = some x → rightB x = true) : ∀ (l : List Str) (k : Nat), k + l.length ≤ words.length → (∀ s ∈ l, wordB s = true) → ∀ y ∈ placesGo tm g words l k, ItOkM g.cats.length words.length y ∧ y.cat ≠ -1
 | [], _, _, _, y, h => by cases h
 | u :: l, k, hk, hw, y, h => by
  rw [List.length_cons] at hk
  unfold placesGo at h
  rcases List.mem_append.1 h with h | h
  ·have := placeM_mem hG hT (i := k) (by omega) (hw u (by simp)) h
   exact ⟨this.1, this.2.1⟩
  ·exact placesGo_mem hG hT l (k + 1) (by omega) (fun s hs => hw s (List.mem_cons_of_mem _ hs)) y h
theorem placesGo_each (hG : GramP g) (hT : ∀ s x, tm s = some x → rightB x = true) : ∀ (l : List Str) (k : Nat), k + l.length ≤ words.length → (∀ s ∈ l, wordB s = true) → ∀ i : Nat, k ≤ i → i < k + l.length → ∃ y ∈ placesGo tm g words l k, 0 ≤ y.cat ∧ y.from_ = (i : Int)
 | [], k, _, _, i, h1, h2 => by simp at h2; omega
 | u :: l, k, hk, hw, i, h1, h2 => by
  rw [List.length_cons] at hk h2
  unfold placesGo
  by_cases hi : i = k
  ·subst hi
   obtain ⟨y, hy⟩ := List.exists_mem_of_ne_nil _ (placeM_some (words := words) hG tm i u)
   obtain ⟨m1, m2, m3⟩ := placeM_mem hG hT (i := i) (by omega) (hw u (by simp)) hy
   exact ⟨y, List.mem_append.2 (.inl hy), (m1.other m2).1, m3⟩
  ·obtain ⟨y, hy, h3⟩ := placesGo_each hG hT l (k + 1) (by omega) (fun s hs => hw s (List.mem_cons_of_mem _ hs)) i (by omega) (by omega)
   exact ⟨y, List.mem_append.2 (.inr hy), h3⟩
theorem baseGo_at : ∀ (l : List Str) (k j : Nat) (s : Str), l[j]? = some s → (baseGo l k)[j]? = some (wordI (k + j) s)
 | [], _, _, _, h => by simp at h
 | u :: l, k, 0, s, h => by
  obtain rfl : u = s := by simpa using h
  rfl
 | u :: l, k, j + 1, s, h => by
  unfold baseGo
  rw [List.getElem?_cons_succ, baseGo_at l (k + 1) j s (by simpa using h)]
  congr 2; omega
theorem baseGo_mem : ∀ (l : List Str) (k : Nat), k + l.length ≤ words.length → (∀ s ∈ l, wordB s = true) → ∀ y ∈ baseGo l k, ItOkM g.cats.length words.length y
 | [], _, _, _, y, h => by cases h
 | u :: l, k, hk, hw, y, h => by
  rw [List.length_cons] at hk
  unfold baseGo at h
  rcases List.mem_cons.1 h with rfl | h
  ·refine ⟨?_, ⟨Nat.le_refl _, by show 1 ≤ 4; decide⟩, by show ([u].all wordB) = true; simp [hw u (by simp)], fun _ => ⟨rfl, rfl, rfl⟩, fun e => absurd rfl e⟩
   show 0 ≤ (k : Int) ∧ (k : Int) < (k : Int) + 1 ∧ (k : Int) + 1 ≤ (words.length : Int) ∧ -1 ≤ (-1 : Int) ∧ (-1 : Int) ≤ 1048576
   omega
  ·exact baseGo_mem l (k + 1) (by omega) (fun s hs => hw s (List.mem_cons_of_mem _ hs)) y h
theorem itemsL_mem (hG : GramP g) (hT : ∀ s x, tm s = some x → rightB x = true) (hw : ∀ s ∈ words, wordB s = true) : ∀ y ∈ itemsL tm g words, ItOkM g.cats.length words.length y := fun y hy => by
 unfold itemsL at hy
 rcases List.mem_append.1 hy with h | h
 ·exact baseGo_mem words 0 (by omega) hw y h
 ·exact (placesGo_mem hG hT words 0 (by omega) hw y h).1
theorem items_ok {w : World} {is : List ItemH} (hG : GramP g) (hT : ∀ s x, tm s = some x → rightB x = true) (hw : ∀ s ∈ words, wordB s = true) (hi : is.map ItemH.m = itemsL tm g words) (hm : ∀ x ∈ is, ItemOk w x) : ItemsOk g.cats.length words w is := by
 have hb := Go.Proofs.YtkfdafeonhnloaaGreatDoor.baseGo_len words 0
 have hget : ∀ (k : Nat) (x : ItemH), is[k]? = some x → (itemsL tm g words)[k]? = some x.m := fun k x h => by rw [← hi, List.getElem?_map, h]; rfl
 have hlen := congrArg List.length hi
 rw [List.length_map] at hlen
 refine ⟨fun x hx => ItOkM.of (itemsL_mem hG hT hw _ (by rw [← hi]; exact List.mem_map_of_mem hx)), hm, fun k s h => ?_, fun k x hk h => ?_⟩
 ·have h1 := baseGo_at words 0 k s h
  have h2 : (itemsL tm g words)[k]? = some (wordI k s) := by
   unfold itemsL
   rw [List.getElem?_append_left (List.getElem?_eq_some_iff.1 h1).1, h1, Nat.zero_add]
  have hk : k < is.length := by rw [hlen]; exact (List.getElem?_eq_some_iff.1 h2).1
  have h3 := hget k _ (List.getElem?_eq_getElem hk)
  rw [h2] at h3
  have h4 := Option.some.inj h3
  exact ⟨_, List.getElem?_eq_getElem hk, (congrArg ItemM.cat h4).symm, (congrArg ItemM.from_ h4).symm, (congrArg ItemM.target h4).symm⟩
 ·have h1 := hget k x h
  unfold itemsL at h1
  rw [List.getElem?_append_right (by omega)] at h1
  exact (placesGo_mem hG hT words 0 (by omega) hw _ (List.mem_of_getElem? h1)).2
theorem itemsL_cover (hG : GramP g) (hT : ∀ s x, tm s = some x → rightB x = true) (hw : ∀ s ∈ words, wordB s = true) : ∀ i : Int, 0 ≤ i → i < (words.length : Int) → ∃ x ∈ itemsL tm g words, 0 ≤ x.cat ∧ x.from_ = i := fun i h0 h1 => by
 obtain ⟨y, hy, h2, h3⟩ := placesGo_each (words := words) hG hT words 0 (by omega) hw i.toNat (by omega) (by omega)
 exact ⟨y, by unfold itemsL; exact List.mem_append.2 (.inr hy), h2, by omega⟩
theorem placeM_len (tm : SMap) (g : GramH) (words : List Str) (i : Nat) (u : Str) : (placeM tm g words i u).length ≤ 4 + g.entries.length + g.cats.length := by
 unfold placeM foundM
 have h1 := termM_len tm g.cats words i 1
 have h2 := termM_len tm g.cats words i 2
 have h3 := termM_len tm g.cats words i 3
 have h4 := termM_len tm g.cats words i 4
 have h5 := entM_len u i g.entries
 have h6 := unkL_len g.cats u i
 rw [List.length_append, List.length_append, List.length_append, List.length_append, List.length_append]
 split
 ·omega
 ·rw [List.length_nil]; omega
theorem places_len (tm : SMap) (g : GramH) (words : List Str) : ∀ (l : List Str) (k : Nat), (placesGo tm g words l k).length ≤ l.length * (4 + g.entries.length + g.cats.length)
 | [], _ => by simp [placesGo]
 | u :: l, k => by
  have h1 := placeM_len tm g words k u
  have h2 := places_len tm g words l (k + 1)
  rw [placesGo, List.length_append, List.length_cons, Nat.succ_mul]
  omega
theorem itemsL_len (tm : SMap) (g : GramH) (words : List Str) : (itemsL tm g words).length ≤ words.length * (5 + g.entries.length + g.cats.length) := by
 have h1 := Go.Proofs.YtkfdafeonhnloaaGreatDoor.baseGo_len words 0
 have h2 := places_len tm g words words 0
 unfold itemsL
 rw [List.length_append, h1]
 have : words.length * (5 + g.entries.length + g.cats.length) = words.length + words.length * (4 + g.entries.length + g.cats.length) := by
  rw [show 5 + g.entries.length + g.cats.length = 1 + (4 + g.entries.length + g.cats.length) by omega, Nat.mul_add, Nat.mul_one]
 omega
end
theorem same_at {α κ : Type} [DecidableEq κ] (key : α → κ) (q : κ) : ∀ (a b : List α), a.map key = b.map key → a.filter (fun x => decide (key x = q)) = b.filter (fun x => decide (key x = q)) → ∀ (k : Nat) (x y : α), a[k]? = some x → b[k]? = some y → key x = q → x = y
 | [], _, _, _, k, x, _, h, _, _ => by simp at h
 | _ :: _, [], h, _, _, _, _, _, _, _ => by simp at h
 | u :: a, v :: b, hm, hf, k, x, y, hx, hy, hq => by
  rw [List.map_cons, List.map_cons] at hm
  injection hm with h1 h2
  rw [List.filter_cons, List.filter_cons, h1] at hf
  by_cases hv : key v = q
  ·rw [if_pos (by simpa using hv), if_pos (by simpa using hv)] at hf
   injection hf with h3 h4
   cases k with
   | zero =>
    obtain rfl : u = x := by simpa using hx
    obtain rfl : v = y := by simpa using hy
    exact h3
   | succ k => exact same_at key q a b h2 h4 k x y (by simpa using hx) (by simpa using hy) hq
  ·rw [if_neg (by simpa using hv), if_neg (by simpa using hv)] at hf
   cases k with
   | zero =>
    obtain rfl : u = x := by simpa using hx
    exact absurd (h1 ▸ hq) hv
   | succ k => exact same_at key q a b h2 hf k x y (by simpa using hx) (by simpa using hy) hq
end Go.Mine.C
namespace Go.Mine.C
open Go.RowKit Go.Mine
def keyI (x : ItemM) : Int × Int := (x.from_, x.until_)
theorem termM_key {tm : SMap} {cats words : List Str} {i many : Nat} : ∀ y ∈ termM tm cats words i many, keyI y = ((i : Int), (i : Int) + many) := fun y h => by
 unfold termM at h
 obtain ⟨z, hz, rfl⟩ := List.mem_map.1 h
 unfold termH at hz
 split at hz
 ·cases hz
 ·split at hz
  ·cases hz
  ·split at hz
   ·obtain rfl : z = _ := by simpa using hz
    rfl
   ·cases hz
theorem entM_key {u : Str} {i : Nat} {l : List EntH} : ∀ y ∈ entM u i l, keyI y = ((i : Int), (i : Int) + 1) := fun y h => by
 unfold entM entI at h
 obtain ⟨z, hz, rfl⟩ := List.mem_map.1 h
 obtain ⟨x, hx, rfl⟩ := List.mem_map.1 hz
 rfl
theorem unkL_key {cats : List Str} {u : Str} {i : Nat} : ∀ y ∈ unkL cats u i, keyI y = ((i : Int), (i : Int) + 1) := fun y h => by
 unfold unkL at h
 obtain ⟨k, _, rfl⟩ := List.mem_map.1 h
 rfl
theorem foundM_key {tm : SMap} {g : GramH} {words : List Str} {i : Nat} {u : Str} : ∀ y ∈ foundM tm g words i u, keyI y = ((i : Int), (i : Int) + 1) := fun y h => by
 unfold foundM at h
 rcases List.mem_append.1 h with h | h
 ·have := termM_key y h
  simpa using this
 ·exact entM_key y h
theorem filt_none {q p : Int × Int} {l : List ItemM} (h : ∀ y ∈ l, keyI y = p) (hn : p ≠ q) : l.filter (fun x => decide (keyI x = q)) = [] := by
 rw [List.filter_eq_nil_iff]
 intro y hy he
 exact hn ((h y hy).symm.trans (of_decide_eq_true he))
theorem filt_same {q p : Int × Int} {l m : List ItemM} (h1 : ∀ y ∈ l, keyI y = p) (h2 : ∀ y ∈ m, keyI y = p) (h : p = q → l = m) : l.filter (fun x => decide (keyI x = q)) = m.filter (fun x => decide (keyI x = q)) := by
 by_cases e : p = q
 ·rw [h e]
 ·rw [filt_none h1 e, filt_none h2 e]
section
variable {tm : SMap} {g : GramH} {words changed : List Str} {i : Nat}
theorem termM_same {cats : List Str} (hl : words.length = changed.length) {k many : Nat} (hs : ∀ j, k ≤ j → j < k + many → words[j]? = changed[j]?) : termM tm cats words k many = termM tm cats changed k many := by
 have e : (words.drop k).take many = (changed.drop k).take many := by
  refine List.ext_getElem? fun j => ?_
  by_cases hj : j < many
  ·rw [List.getElem?_take_of_lt hj, List.getElem?_take_of_lt hj, List.getElem?_drop, List.getElem?_drop]
   exact hs (k + j) (by omega) (by omega)
  ·rw [List.getElem?_take_eq_none (by omega), List.getElem?_take_eq_none (by omega)]
 unfold termM termH
 rw [hl, e]
theorem termF_same {cats : List Str} (hl : words.length = changed.length) (hs : ∀ j, j ≠ i → words[j]? = changed[j]?) {f u : Int} (hfu : ¬ (f ≤ (i : Int) ∧ (i : Int) < u)) (k many : Nat) :
  (termM tm cats words k many).filter (fun x => decide (keyI x = (f, u))) = (termM tm cats changed k many).filter (fun x => decide (keyI x = (f, u))) :=
 filt_same termM_key termM_key fun e => by
  injection e with e1 e2
  exact termM_same hl fun j h1 h2 => hs j fun h => hfu (by omega)
theorem placeF_same (hl : words.length = changed.length) (hs : ∀ j, j ≠ i → words[j]? = changed[j]?) {f u : Int} (hfu : ¬ (f ≤ (i : Int) ∧ (i : Int) < u)) (k : Nat) (u0 u1 : Str) (hu : k ≠ i → u0 = u1) :
  (placeM tm g words k u0).filter (fun x => decide (keyI x = (f, u))) = (placeM tm g changed k u1).filter (fun x => decide (keyI x = (f, u))) := by
 have hF : ((k : Int), (k : Int) + 1) = (f, u) → u0 = u1 ∧ foundM tm g words k u0 = foundM tm g changed k u1 := fun e => by
  injection e with e1 e2
  have hki : k ≠ i := fun h => hfu (by omega)
  obtain rfl := hu hki
  refine ⟨rfl, ?_⟩
  unfold foundM
  rw [termM_same hl fun j h1 h2 => hs j (by omega)]
 unfold placeM
 rw [List.filter_append, List.filter_append, List.filter_append, List.filter_append, List.filter_append, List.filter_append, List.filter_append, List.filter_append,
  termF_same hl hs hfu k 2, termF_same hl hs hfu k 3, termF_same hl hs hfu k 4, filt_same foundM_key foundM_key fun e => (hF e).2]
 congr 2
 refine filt_same (p := ((k : Int), (k : Int) + 1)) (fun y hy => ?_) (fun y hy => ?_) fun e => ?_
 ·split at hy
  ·exact unkL_key y hy
  ·cases hy
 ·split at hy
  ·exact unkL_key y hy
  ·cases hy
 ·obtain ⟨h1, h2⟩ := hF e
  rw [h2, h1]
theorem placesF_same (hl : words.length = changed.length) (hs : ∀ j, j ≠ i → words[j]? = changed[j]?) {f u : Int} (hfu : ¬ (f ≤ (i : Int) ∧ (i : Int) < u)) : ∀ (l l' : List Str) (k : Nat), l.length = l'.length → (∀ j, k + j ≠ i → l[j]? = l'[j]?) →
  (placesGo tm g words l k).filter (fun x => decide (keyI x = (f, u))) = (placesGo tm g changed l' k).filter (fun x => decide (keyI x = (f, u)))
 | [], [], _, _, _ => rfl
 | [], _ :: _, _, h, _ => by simp at h
 | _ :: _, [], _, h, _ => by simp at h
 | x :: l, y :: l', k, h, hj => by
  unfold placesGo
  rw [List.filter_append, List.filter_append, placeF_same hl hs hfu k x y fun hk => by simpa using hj 0 (by omega)]
  rw [placesF_same hl hs hfu l l' (k + 1) (by simpa using h) fun j hk => by simpa using hj (j + 1) (by omega)]
theorem baseF_same {f u : Int} (hfu : ¬ (f ≤ (i : Int) ∧ (i : Int) < u)) : ∀ (l l' : List Str) (k : Nat), l.length = l'.length → (∀ j, k + j ≠ i → l[j]? = l'[j]?) →
  (baseGo l k).filter (fun x => decide (keyI x = (f, u))) = (baseGo l' k).filter (fun x => decide (keyI x = (f, u)))
 | [], [], _, _, _ => rfl
 | [], _ :: _, _, h, _ => by simp at h
 | _ :: _, [], _, h, _ => by simp at h
 | x :: l, y :: l', k, h, hj => by
  have e1 : baseGo (x :: l) k = [wordI k x] ++ baseGo l (k + 1) := rfl
  have e2 : baseGo (y :: l') k = [wordI k y] ++ baseGo l' (k + 1) := rfl
  rw [e1, e2, List.filter_append, List.filter_append, baseF_same hfu l l' (k + 1) (by simpa using h) fun j hk => by simpa using hj (j + 1) (by omega)]
  congr 1
  refine filt_same (p := ((k : Int), (k : Int) + 1)) (fun z hz => ?_) (fun z hz => ?_) fun e => ?_
  ·obtain rfl : z = _ := by simpa using hz
   rfl
  ·obtain rfl : z = _ := by simpa using hz
   rfl
  ·injection e with e1 e2
   obtain rfl : x = y := by simpa using hj 0 (fun h => hfu (by omega))
   rfl
theorem items_alike (hl : words.length = changed.length) (hs : ∀ j, j ≠ i → words[j]? = changed[j]?) (hk : (itemsL tm g words).map keyI = (itemsL tm g changed).map keyI) : AlikeP (itemsL tm g words) (itemsL tm g changed) i := by
 have hlen := congrArg List.length hk
 rw [List.length_map, List.length_map] at hlen
 refine ⟨hlen, fun k x y hx hy => ?_⟩
 have he : keyI x = keyI y := by
  have h1 : ((itemsL tm g words).map keyI)[k]? = some (keyI x) := by rw [List.getElem?_map, hx]; rfl
  have h2 : ((itemsL tm g changed).map keyI)[k]? = some (keyI y) := by rw [List.getElem?_map, hy]; rfl
  rw [hk, h2] at h1
  exact (Option.some.inj h1).symm
 have he2 := he
 unfold keyI at he2
 injection he2 with e1 e2
 refine ⟨e1, e2, fun hni => ?_⟩
 have hf : (itemsL tm g words).filter (fun z => decide (keyI z = keyI x)) = (itemsL tm g changed).filter (fun z => decide (keyI z = keyI x)) := by
  unfold itemsL
  rw [List.filter_append, List.filter_append]
  have q : keyI x = (x.from_, x.until_) := rfl
  rw [q, baseF_same hni words changed 0 hl fun j hj => hs j (by omega), placesF_same hl hs hni words changed 0 hl fun j hj => hs j (by omega)]
 have := same_at keyI (keyI x) _ _ hk hf k x y hx hy rfl
 rw [this]
 exact ⟨rfl, rfl⟩
end
end Go.Mine.C
