/-
 What types.Check promises, plainly: a rank of the categories, right rules, few goals.
-/
import Derived.Test.YtkfdafeonhnloaaGreatDoorA27
import Derived.Test.YtkfdafeonhnloaaGreatDoorGM14
namespace Go.Mine.C
open Go.RowKit Go.Mine
def lyr (g : GramH) : Nat → Str → Bool
 | 0, c => memB g.cats c
 | k + 1, c => lyr g k c && leadB g.rules (lyr g k) c
theorem lyr_mono {g : GramH} {k : Nat} {c : Str} (h : lyr g (k + 1) c = true) : lyr g k c = true := by
 unfold lyr at h
 rw [Bool.and_eq_true] at h
 exact h.1
theorem lyr_cats {g : GramH} : ∀ {k : Nat} {c : Str}, lyr g k c = true → c ∈ g.cats
 | 0, c, h => memB_iff.1 h
 | k + 1, c, h => lyr_cats (lyr_mono h)
theorem lyr_drop {g : GramH} (hc : ¬ Circ g) {k : Nat} (h : ∃ c, lyr g k c = true) : ∃ c ∈ g.cats, lyr g k c = true ∧ lyr g (k + 1) c = false := by
 apply Classical.byContradiction
 intro hn
 refine hc ⟨lyr g k, h, fun c hl => ⟨lyr_cats hl, ?_⟩⟩
 cases hx : leadB g.rules (lyr g k) c
 ·exact absurd ⟨c, lyr_cats hl, hl, by rw [lyr, hx, Bool.and_false]⟩ hn
 ·rfl
theorem count_less : ∀ (l : List Str) (p q : Str → Bool), (∀ c, q c = true → p c = true) → (∃ c ∈ l, p c = true ∧ q c = false) → l.countP q < l.countP p
 | [], _, _, _, h => by obtain ⟨c, h, _⟩ := h; cases h
 | x :: l, p, q, hpq, h => by
  rw [List.countP_cons, List.countP_cons]
  have hle : l.countP q ≤ l.countP p := List.countP_mono_left fun c _ h => hpq c h
  obtain ⟨c, hm, hp, hq⟩ := h
  rcases List.mem_cons.1 hm with rfl | hm
  ·rw [hp, hq]; simp; omega
  ·have := count_less l p q hpq ⟨c, hm, hp, hq⟩
   cases hqx : q x
   ·simp; split <;> omega
   ·rw [hpq x hqx]; omega
theorem lyr_count {g : GramH} (hc : ¬ Circ g) : ∀ k, g.cats.countP (lyr g k) + k ≤ g.cats.length ∨ ∀ c, lyr g k c = false
 | 0 => .inl List.countP_le_length
 | k + 1 => by
  by_cases he : ∃ c, lyr g (k + 1) c = true
  ·obtain ⟨c, h⟩ := he
   rcases lyr_count hc k with h1 | h1
   ·have := count_less g.cats (lyr g k) (lyr g (k + 1)) (fun c => lyr_mono) (lyr_drop hc ⟨c, lyr_mono h⟩)
    exact .inl (by omega)
   ·have := h1 c; rw [lyr_mono h] at this; cases this
  ·exact .inr fun c => by
    cases h : lyr g (k + 1) c
    ·rfl
    ·exact absurd ⟨c, h⟩ he
theorem lyr_end {g : GramH} (hc : ¬ Circ g) (hl : g.cats.length ≤ 32) (c : Str) : lyr g 32 c = false := by
 cases h : lyr g 32 c
 ·rfl
 ·rcases lyr_count hc 32 with h1 | h1
  ·have : 0 < g.cats.countP (lyr g 32) := List.countP_pos_iff.2 ⟨c, lyr_cats h, h⟩
   omega
  ·rw [h1 c] at h; cases h
def hgt (g : GramH) (c : Str) : Nat := (List.range 32).countP fun k => lyr g k c
theorem hgt_lt (g : GramH) (c : Str) : hgt g c < 33 := by
 have : hgt g c ≤ (List.range 32).length := List.countP_le_length
 rw [List.length_range] at this
 omega
theorem lyr_chain {g : GramH} {r : RuleH} (hr : r ∈ g.rules) {p : PartM} (hp : r.parts = [p]) (ht : p.text.size = 0) (hc : r.cat ∈ g.cats) : ∀ k, lyr g k p.cat = true → lyr g (k + 1) r.cat = true := by
 have hlead : ∀ L : Str → Bool, L p.cat = true → leadB g.rules L r.cat = true := fun L hL => by
  unfold leadB
  rw [List.any_eq_true]
  refine ⟨r, hr, ?_⟩
  unfold leadX
  rw [hp]
  simp [soleX, ht, hL]
 intro k
 induction k with
 | zero => exact fun h => by rw [lyr, hlead _ h, Bool.and_true, lyr]; exact memB_iff.2 hc
 | succ k ih => exact fun h => by rw [lyr, hlead _ h, Bool.and_true]; exact ih (lyr_mono h)
theorem hgt_chain {g : GramH} (hcirc : ¬ Circ g) (hl : g.cats.length ≤ 32) {r : RuleH} (hr : r ∈ g.rules) {p : PartM} (hp : r.parts = [p]) (ht : p.text.size = 0) (hc : r.cat ∈ g.cats) : hgt g p.cat < hgt g r.cat := by
 have hch := lyr_chain hr hp ht hc
 have h31 : lyr g 31 p.cat = false := by
  cases h : lyr g 31 p.cat
  ·rfl
  ·have := hch 31 h
   rw [lyr_end hcirc hl] at this; cases this
 have e1 : hgt g p.cat = (List.range 31).countP fun k => lyr g k p.cat := by
  unfold hgt
  rw [List.range_succ, List.countP_append]
  simp [h31]
 have e2 : hgt g r.cat = ((List.range 31).countP fun k => lyr g (k + 1) r.cat) + 1 := by
  unfold hgt
  rw [List.range_succ_eq_map, List.countP_cons, List.countP_map]
  have : lyr g 0 r.cat = true := memB_iff.2 hc
  rw [if_pos this]
  rfl
 rw [e1, e2]
 have : ((List.range 31).countP fun k => lyr g k p.cat) ≤ (List.range 31).countP fun k => lyr g (k + 1) r.cat := List.countP_mono_left fun k _ h => hch k h
 omega
structure GramP (g : GramH) : Prop where
 cats : g.cats.length ≤ 32
 ents : g.entries.length ≤ 512
 rules : g.rules.length ≤ 128
 start : catB g.cats g.start = true ∧ g.startNo = idxF g.cats g.start
 free : ∀ c ∈ g.cats, freeB c = true
 ent : ∀ x ∈ g.entries, entB g.cats x = true ∧ x.catNo = idxF g.cats x.cat
 rule : ∀ r ∈ g.rules, ruleB g.cats r = true ∧ r.catNo = idxF g.cats r.cat ∧ ∀ p ∈ r.parts, p.catNo = if p.text.size = 0 then idxF g.cats p.cat else 0
 circ : ¬ Circ g
theorem sameParts_no (cats : List Str) : ∀ (l : List PartM), sameParts (l.map (resP cats)) l = true → ∀ p ∈ l, p.catNo = if p.text.size = 0 then idxF cats p.cat else 0
 | [], _, p, hp => by cases hp
 | x :: l, h, p, hp => by
  rw [List.map_cons, sameParts, Bool.and_eq_true] at h
  rcases List.mem_cons.1 hp with rfl | hp
  ·have := h.1
   unfold samePart at this
   rw [Bool.and_eq_true, Bool.and_eq_true] at this
   exact (eq_of_beq this.2.1).symm
  ·exact sameParts_no cats l h.2 p hp
theorem okB_gramP {g : GramH} (h : okB g = true) : GramP g := by
 unfold okB preG limB typedB at h
 simp only [Bool.and_eq_true, decide_eq_true_eq, Bool.not_eq_true', List.all_eq_true, beq_iff_eq] at h
 obtain ⟨⟨⟨h1, h2, h3⟩, _, ⟨_, _, h4, h5, h6, h7⟩, h8⟩, h9, h10, h11⟩ := h
 refine ⟨h1, h2, h3, ⟨h5, h9.symm⟩, h4, fun x hx => ⟨h6 x hx, ?_⟩, fun r hr => ⟨h7 r hr, ?_⟩, ?_⟩
 ·unfold entsB at h10
  rw [List.all_eq_true] at h10
  exact (eq_of_beq (h10 x hx)).symm
 ·unfold rulesB at h11
  rw [List.all_eq_true] at h11
  have := h11 r hr
  rw [Bool.and_eq_true, beq_iff_eq] at this
  exact ⟨this.1.symm, sameParts_no g.cats r.parts this.2⟩
 ·unfold circB at h8
  exact @of_decide_eq_false _ (Classical.propDecidable _) h8
def rkOf (g : GramH) (n : Int) : Nat := match g.cats[n.toNat]? with
 | some c => hgt g c
 | none => 0
theorem catB_mem {cats : List Str} {s : Str} (h : catB cats s = true) : s ∈ cats := (idxM_some cats s).1 h
theorem idxF_bd {cats : List Str} {s : Str} (h : catB cats s = true) : 0 ≤ idxF cats s ∧ idxF cats s < (cats.length : Int) := by
 obtain ⟨h1, h2⟩ := idxM_at (catB_idx h)
 have := (List.getElem?_eq_some_iff.1 h2).1
 omega
theorem rkOf_idx {g : GramH} {s : Str} (h : catB g.cats s = true) : rkOf g (idxF g.cats s) = hgt g s := by
 obtain ⟨_, h2⟩ := idxM_at (catB_idx h)
 unfold rkOf
 rw [h2]
theorem part_cat {cats : List Str} {r : RuleH} (h : ruleB cats r = true) {p : PartM} (hp : p ∈ r.parts) (ht : p.text.size = 0) : catB cats p.cat = true := by
 unfold ruleB at h
 simp only [Bool.and_eq_true, List.all_eq_true] at h
 have := h.2.2.2.2.1 p hp
 unfold partB at this
 rwa [if_pos ht] at this
theorem GramP.rank {g : GramH} (h : GramP g) : RankP (g.rules.map RuleH.m) 33 (rkOf g) := by
 refine ⟨fun c => ?_, fun r hr p hp ht => ?_⟩
 ·unfold rkOf
  split
  ·exact hgt_lt g _
  ·decide
 ·obtain ⟨x, hx, rfl⟩ := List.mem_map.1 hr
  obtain ⟨h1, h2, h3⟩ := h.rule x hx
  have hp' : x.parts = [p] := hp
  have hm : p ∈ x.parts := by rw [hp']; simp
  have ht' : p.text.size = 0 := of_decide_eq_true ht
  have hpc := part_cat h1 hm ht'
  have e1 := h3 p hm
  rw [if_pos ht'] at e1
  have hrc : catB g.cats x.cat = true := by
   unfold ruleB at h1
   rw [Bool.and_eq_true] at h1
   exact h1.1
  rw [e1, show x.m.catNo = x.catNo from rfl, h2, rkOf_idx hpc, rkOf_idx hrc]
  exact hgt_chain h.circ h.cats hx hp' ht' (catB_mem hrc)
theorem gives_count : ∀ (ys : List GiveM) (m m' : List Int), givesGo ys m = some m' → m'.length = m.length ∧ (∀ y ∈ ys, y.text.size = 0 → 0 ≤ y.part ∧ y.part.toNat < m.length) ∧
  ∀ j, j < m.length → m'.getD j 0 = m.getD j 0 + (ys.countP fun y => decide (y.text.size = 0) && decide (y.part.toNat = j) : Nat)
 | [], m, m', h => by
  unfold givesGo at h
  cases h
  exact ⟨rfl, by simp, by simp⟩
 | y :: ys, m, m', h => by
  unfold givesGo at h
  by_cases ht : y.text.size = 0
  ·rw [if_pos ht] at h
   split at h
   ·rename_i hin
    unfold inB at hin
    rw [Bool.and_eq_true, decide_eq_true_eq, decide_eq_true_eq] at hin
    obtain ⟨h1, h2, h3⟩ := gives_count ys _ m' h
    rw [List.length_set] at h1 h2 h3
    refine ⟨h1, fun z hz hzt => ?_, fun j hj => ?_⟩
    ·rcases List.mem_cons.1 hz with rfl | hz
     ·omega
     ·exact h2 z hz hzt
    ·rw [h3 j hj, List.countP_cons, ht]
     by_cases hj2 : y.part.toNat = j
     ·subst hj2
      have : (m.set y.part.toNat (m.getD y.part.toNat 0 + 1)).getD y.part.toNat 0 = m.getD y.part.toNat 0 + 1 := by
       simp [List.getD_eq_getElem?_getD, hj]
      rw [this]; simp; omega
     ·have : (m.set y.part.toNat (m.getD y.part.toNat 0 + 1)).getD j 0 = m.getD j 0 := by
       simp [List.getD_eq_getElem?_getD, hj2]
      rw [this]; simp [hj2]
   ·cases h
  ·rw [if_neg ht] at h
   split at h
   ·obtain ⟨h1, h2, h3⟩ := gives_count ys _ m' h
    refine ⟨h1, fun z hz hzt => ?_, fun j hj => ?_⟩
    ·rcases List.mem_cons.1 hz with rfl | hz
     ·exact absurd hzt ht
     ·exact h2 z hz hzt
    ·rw [h3 j hj, List.countP_cons]; simp [ht]
   ·cases h
theorem last_each : ∀ (ps : List PartM) (cs : List Int), lastGo ps cs = true → ∀ (j : Nat) (p : PartM) (c : Int), ps[j]? = some p → cs[j]? = some c → (c = 1 ↔ p.text.size = 0) ∧ c ≤ 1
 | [], _, _, j, p, c, h, _ => by simp at h
 | _ :: _, [], _, j, p, c, _, h => by simp at h
 | q :: ps, d :: cs, hl, j, p, c, h1, h2 => by
  unfold lastGo at hl
  rw [Bool.and_eq_true, Bool.and_eq_true, beq_iff_eq, decide_eq_true_eq] at hl
  cases j with
  | zero =>
   obtain rfl : q = p := by simpa using h1
   obtain rfl : d = c := by simpa using h2
   refine ⟨?_, hl.2.1⟩
   have := hl.1
   constructor
   ·intro e; rw [e] at this; exact of_decide_eq_true this.symm
   ·intro e; rw [decide_eq_true e] at this; exact eq_of_beq this
  | succ j => exact last_each ps cs hl.2.2 j p c (by simpa using h1) (by simpa using h2)
theorem rule_ok {cats : List Str} {r : RuleH} (h : ruleB cats r = true) : RuleOk r.m := by
 unfold ruleB inB at h
 simp only [Bool.and_eq_true, decide_eq_true_eq] at h
 obtain ⟨_, ⟨hp1, hp2⟩, ⟨hg1, hg2⟩, _, _, hcnt⟩ := h
 unfold countB at hcnt
 cases hm : givesGo r.gives (List.replicate r.parts.length 0) with
 | none => rw [hm] at hcnt; cases hcnt
 | some m' =>
  rw [hm] at hcnt
  dsimp only at hcnt
  obtain ⟨k1, k2, k3⟩ := gives_count _ _ _ hm
  rw [List.length_replicate] at k1 k2 k3
  have k4 := last_each _ _ hcnt
  have hat : ∀ (j : Nat) (p : PartM), r.parts[j]? = some p → ((r.gives.countP fun y => decide (y.text.size = 0) && decide (y.part.toNat = j)) = 1 ↔ p.text.size = 0) ∧ (r.gives.countP fun y => decide (y.text.size = 0) && decide (y.part.toNat = j)) ≤ 1 := fun j p hj => by
   have hlt := (List.getElem?_eq_some_iff.1 hj).1
   have h1 := k3 j hlt
   have h2 : m'[j]? = some (m'.getD j 0) := by
    rw [List.getD_eq_getElem?_getD, List.getElem?_eq_getElem (by omega)]
    rfl
   have h3 := k4 j p _ hj h2
   rw [h1] at h3
   have h4 : (List.replicate r.parts.length (0 : Int)).getD j 0 = 0 := by
    simp [List.getD_eq_getElem?_getD, hlt]
   rw [h4] at h3
   omega
  refine ⟨?_, ?_, ?_, ?_, ?_, ?_⟩
  ·intro e
   rw [show r.gives = [] from e] at hg1; simp at hg1
  ·intro e
   rw [show r.parts = [] from e] at hp1; simp at hp1
  ·have : (r.gives.length : Int) ≤ 8 := hg2
   show r.gives.length ≤ 8
   omega
  ·show ((r.gives.filter fun y => decide (y.text.size = 0)).map fun y => y.part).Nodup
   rw [List.nodup_iff_count]
   intro a
   rw [List.count_eq_countP, List.countP_map, List.countP_filter]
   by_cases he : ∃ y ∈ r.gives, y.text.size = 0 ∧ y.part = a
   ·obtain ⟨y, hy, hyt, rfl⟩ := he
    obtain ⟨g1, g2⟩ := k2 y hy hyt
    have := (hat y.part.toNat _ (List.getElem?_eq_getElem g2)).2
    refine Nat.le_trans (List.countP_mono_left fun z _ hz => ?_) this
    simp only [Function.comp_apply, Bool.and_eq_true, beq_iff_eq, decide_eq_true_eq] at hz ⊢
    exact ⟨hz.2, by rw [hz.1]⟩
   ·have : (r.gives.countP fun x => ((fun x => x == a) ∘ fun y => y.part) x && decide (x.text.size = 0)) = 0 := by
     rw [List.countP_eq_zero]
     intro z hz hh
     simp only [Function.comp_apply, Bool.and_eq_true, beq_iff_eq, decide_eq_true_eq] at hh
     exact he ⟨z, hz, hh.2, hh.1⟩
    omega
  ·intro y hy hyt
   obtain ⟨g1, g2⟩ := k2 y hy hyt
   refine ⟨g1, _, List.getElem?_eq_getElem g2, ?_⟩
   have h1 := hat y.part.toNat _ (List.getElem?_eq_getElem g2)
   have h2 : 0 < r.gives.countP fun z => decide (z.text.size = 0) && decide (z.part.toNat = y.part.toNat) := List.countP_pos_iff.2 ⟨y, hy, by simp [hyt]⟩
   exact decide_eq_true (h1.1.1 (by omega))
  ·intro i p hi hpc
   have h1 := (hat i p hi).1.2 (of_decide_eq_true hpc)
   obtain ⟨y, hy, hh⟩ := List.countP_pos_iff.1 (show 0 < _ from by rw [h1]; decide)
   rw [Bool.and_eq_true, decide_eq_true_eq, decide_eq_true_eq] at hh
   obtain ⟨g1, _⟩ := k2 y hy hh.1
   exact ⟨y, hy, hh.1, by omega⟩
theorem GramP.parts {g : GramH} (h : GramP g) : ∀ r ∈ g.rules, r.parts.length ≤ 4 := fun r hr => by
 have h1 := (h.rule r hr).1
 unfold ruleB inB at h1
 simp only [Bool.and_eq_true, decide_eq_true_eq] at h1
 have := h1.2.1.2
 omega
theorem GramP.partNo {g : GramH} (h : GramP g) : ∀ r ∈ g.rules, ∀ p ∈ r.parts, 0 ≤ p.catNo ∧ p.catNo ≤ 32 := fun r hr p hp => by
 obtain ⟨h1, _, h3⟩ := h.rule r hr
 have e := h3 p hp
 by_cases ht : p.text.size = 0
 ·rw [if_pos ht] at e
  have := idxF_bd (part_cat h1 hp ht)
  have := h.cats
  omega
 ·rw [if_neg ht] at e; omega
theorem GramP.startNo {g : GramH} (h : GramP g) : 0 ≤ g.startNo ∧ g.startNo ≤ 32 := by
 have := idxF_bd h.start.1
 have := h.cats
 rw [h.start.2]; omega
theorem flat_le {α β : Type} (f : α → List β) (B : Nat) : ∀ l : List α, (∀ x ∈ l, (f x).length ≤ B) → (l.flatMap f).length ≤ l.length * B
 | [], _ => by simp
 | x :: l, h => by
  rw [List.flatMap_cons, List.length_append, List.length_cons, Nat.succ_mul]
  have h1 := h x (by simp)
  have h2 := flat_le f B l fun y hy => h y (List.mem_cons_of_mem _ hy)
  omega
theorem GramP.goals {g : GramH} (h : GramP g) : (goalsL g.startNo (g.rules.map RuleH.m) 16).length ≤ 1000000 := by
 unfold goalsL
 have h1 : ((g.rules.map RuleH.m).flatMap fun r => r.parts.map fun p => p.catNo).length ≤ (g.rules.map RuleH.m).length * 4 := flat_le _ 4 _ fun r hr => by
  obtain ⟨x, hx, rfl⟩ := List.mem_map.1 hr
  rw [List.length_map]
  exact h.parts x hx
 have h2 := flat_le (fun c : Int => (List.range (16 + 1)).flatMap fun f : Nat => (List.range (16 + 1)).map fun u : Nat => (c, (f : Int), (u : Int))) (17 * 17) (g.startNo :: (g.rules.map RuleH.m).flatMap fun r => r.parts.map fun p => p.catNo) fun c _ => by
  have := flat_le (fun f : Nat => (List.range (16 + 1)).map fun u : Nat => (c, (f : Int), (u : Int))) 17 (List.range (16 + 1)) fun f _ => by rw [List.length_map, List.length_range]; exact Nat.le_refl _
  rw [List.length_range] at this
  exact this
 rw [List.length_map] at h1
 rw [List.length_cons] at h2
 have h3 := h.rules
 omega
end Go.Mine.C
