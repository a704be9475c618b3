/-
  types.Resolve: what is refused.
  A list turned element by element; a grammar's rows in the turning.
-/
import Derived.Test.YtkfdafeonhnloaaGreatDoorA20
import Derived.Test.YtkfdafeonhnloaaGreatDoorGM11
namespace Go.Mine.C
open Go.RowKit Go.Mine
def distL (l : List Str) : List Str := l.foldl (fun acc s => if memB acc s = true then acc else acc ++ [s]) []
theorem distL_snoc (l : List Str) (x : Str) : distL (l ++ [x]) = if memB (distL l) x = true then distL l else distL l ++ [x] := by
 unfold distL
 rw [List.foldl_append]
 rfl
theorem distL_go : ∀ (l acc : List Str) (s : Str), s ∈ l.foldl (fun acc s => if memB acc s = true then acc else acc ++ [s]) acc ↔ s ∈ l ∨ s ∈ acc
 | [], acc, s => by simp
 | x :: l, acc, s => by
  rw [List.foldl_cons, distL_go l]
  split
  ·rename_i h
   have := memB_iff.1 h
   rw [List.mem_cons]
   constructor
   ·rintro (h1 | h1)
    ·exact .inl (.inr h1)
    ·exact .inr h1
   ·rintro ((rfl | h1) | h1)
    ·exact .inr this
    ·exact .inl h1
    ·exact .inr h1
  ·rw [List.mem_append, List.mem_singleton, List.mem_cons]
   constructor
   ·rintro (h1 | h1 | rfl)
    ·exact .inl (.inr h1)
    ·exact .inr h1
    ·exact .inl (.inl rfl)
   ·rintro ((rfl | h1) | h1)
    ·exact .inr (.inr rfl)
    ·exact .inl h1
    ·exact .inr (.inl h1)
theorem distL_mem (l : List Str) (s : Str) : memB (distL l) s = true ↔ s ∈ l := by
 rw [memB_iff]
 have := distL_go l [] s
 simpa [distL] using this
theorem idxV_snoc (l : List Str) (x : Str) : idxV (l ++ [x]) = updG (idxV l) x (.int .i64 l.length) := by
 funext s
 unfold idxV updG
 rw [idxM_snoc]
 by_cases h : s = x
 ·rw [if_pos h, if_pos h]; rfl
 ·rw [if_neg h, if_neg h]
theorem idxV_some (l : List Str) (s : Str) : (idxV l s).isSome = true ↔ s ∈ l := by
 unfold idxV
 rw [Option.isSome_map]
 exact idxM_some l s
def zeroG : GramH := ⟨⟨#[]⟩, none, 0, [], ⟨#[]⟩, 0, none, 0, [], none, 0, []⟩
def limB (g : GramH) : Bool := decide (g.cats.length ≤ 32) && (decide (g.entries.length ≤ 512) && decide (g.rules.length ≤ 128))
noncomputable def preG (g : GramH) : Bool := limB g && (decide ((distL g.cats).length = g.cats.length) && (typedB g && !circB g))
def resE (cats : List Str) (x : EntH) : EntH := { x with catNo := idxF cats x.cat }
def resP (cats : List Str) (p : PartM) : PartM := { p with catNo := if p.text.size = 0 then idxF cats p.cat else 0 }
def resM (cats : List Str) (r : RuleH) : RuleM := ⟨r.cat, idxF cats r.cat, r.parts.map (resP cats), r.gives, r.cost⟩
structure ResG (w : World) (g g' : GramH) : Prop where
 start : g'.startNo = idxF g.cats g.start
 entries : g'.entries = g.entries.map (resE g.cats)
 rules : g'.rules.map RuleH.m = g.rules.map (resM g.cats)
 sle : Sl entC 5 w g'.eA g'.eC g'.entries
 slr : Sl ruleC 5 w g'.rA g'.rC g'.rules
 ruleOk : ∀ x ∈ g'.rules, RuleOkW w x
def ResPost (g : GramH) (w' : World) (e : Ending) : Prop := ∃ (g' : GramH) (er : Int), e = .returned (.tuple #[gramV g', .int .i64 er]) ∧ (er = 0 ↔ preG g = true) ∧ (preG g = true → ResG w' g g')
theorem ResPost.bad {g : GramH} {w' : World} {er : Int} (h : preG g = false) (he : er ≠ 0) : ResPost g w' (.returned (.tuple #[gramV zeroG, .int .i64 er])) :=
 ⟨zeroG, er, rfl, by rw [h]; simp [he], fun h' => by rw [h] at h'; cases h'⟩
end Go.Mine.C
namespace Go.Proofs.YtkfdafeonhnloaaGreatDoor
open Go.RowKit Go.Shelf Go.Mine Go.Mine.C
attribute [local go_sem] Oper.semAt_some
set_option maxRecDepth 100000 in
set_option maxHeartbeats 8000000 in
theorem resolve62_lim (g : GramH) (w : World) (h : limB g = false) : Calls Tryz.prog 62 #[gramV g] w fun e w' => ResPost g w' e ∧ Below w.heap.size w w' := by
 have HP := hide (fun w' => ResPost.bad (g := g) (w' := w') (er := 2) (by unfold preG; rw [h]; rfl) (by decide))
 have HK := hide (kalloc (kalloc (Below.refl w.heap.size w) (.cells #[.string g.name, .slice g.cA g.cats.length g.cC, .string g.start, .int .i64 g.startNo, .slice g.eA g.entries.length g.eC, .slice g.rA g.rules.length g.rC] 26)) (.cells #[.string ⟨#[]⟩, .slice none 0 0, .string ⟨#[]⟩, .int .i64 0, .slice none 0 0, .slice none 0 0] 26))
 simp only [gramV]
 unfold limB at h
 by_cases h1 : g.cats.length ≤ 32
 ·rw [decide_eq_true h1, Bool.true_and] at h
  have g1 : decide ((32 : Int) < g.cats.length) = false := decide_eq_false (by omega)
  by_cases h2 : g.entries.length ≤ 512
  ·rw [decide_eq_true h2, Bool.true_and] at h
   have h3 := of_decide_eq_false h
   have g2 : decide ((512 : Int) < g.entries.length) = false := decide_eq_false (by omega)
   have g3 : decide ((128 : Int) < g.rules.length) = true := decide_eq_true (by omega)
   clear h h1 h2 h3
   go_enter Tryz.func62, Tryz.ntmps62
   go_wp2
   exact bodyPost_ret (v := .tuple #[gramV zeroG, .int .i64 2]) (by simp [results, Tryz.results62, go_sem, gramV, zeroG]) rfl ⟨HP.out _, HK.out⟩
  ·have g2 : decide ((512 : Int) < g.entries.length) = true := decide_eq_true (by omega)
   clear h h1 h2
   go_enter Tryz.func62, Tryz.ntmps62
   go_wp2
   exact bodyPost_ret (v := .tuple #[gramV zeroG, .int .i64 2]) (by simp [results, Tryz.results62, go_sem, gramV, zeroG]) rfl ⟨HP.out _, HK.out⟩
 ·have g1 : decide ((32 : Int) < g.cats.length) = true := decide_eq_true (by omega)
  clear h h1
  go_enter Tryz.func62, Tryz.ntmps62
  go_wp2
  exact bodyPost_ret (v := .tuple #[gramV zeroG, .int .i64 2]) (by simp [results, Tryz.results62, go_sem, gramV, zeroG]) rfl ⟨HP.out _, HK.out⟩
end Go.Proofs.YtkfdafeonhnloaaGreatDoor
namespace Go.Mine.C
open Go.RowKit Go.Mine
def upTo {α : Type} (f : α → α) (k : Nat) (l : List α) : List α := (l.take k).map f ++ l.drop k
section
variable {α : Type} {f : α → α} {l : List α} {k : Nat} {x : α}
theorem upTo_zero : upTo f 0 l = l := by simp [upTo]
theorem upTo_all : upTo f l.length l = l.map f := by simp [upTo]
theorem upTo_len : (upTo f k l).length = l.length := by simp [upTo]; omega
theorem upTo_get (hx : l[k]? = some x) : (upTo f k l)[k]? = some x := by
 have hk := lt_of_get hx
 unfold upTo
 rw [List.getElem?_append_right (by simp; omega)]
 simp only [List.length_map, List.length_take, Nat.min_eq_left (Nat.le_of_lt hk), Nat.sub_self, List.getElem?_drop, Nat.add_zero]
 exact hx
theorem upTo_set (hx : l[k]? = some x) : (upTo f k l).set k (f x) = upTo f (k + 1) l := by
 have hk := lt_of_get hx
 unfold upTo
 rw [List.set_append_right _ _ (by simp; omega), take_of_get hx, drop_of_get hx]
 simp [List.length_take, Nat.min_eq_left (Nat.le_of_lt hk)]
end
theorem OwnL.recell {α : Type} {f : α → List Value} {sz : Nat} {e : TypeId} {w : World} {base : Nat} {v : Value} {l l' : List α} (h : OwnL f sz e w base v l) (hm : l'.map f = l.map f) : OwnL f sz e w base v l' := by
 have hl : l'.length = l.length := by have := congrArg List.length hm; simpa using this
 have hf : l'.flatMap f = l.flatMap f := by rw [List.flatMap_def, hm, ← List.flatMap_def]
 obtain ⟨⟨h0, h1⟩, hs⟩ := h
 refine ⟨⟨by rw [hf, hl]; exact h0, ?_⟩, fun x hx => ?_⟩
 ·rw [hf, hl]; exact h1
 ·have : f x ∈ l.map f := by rw [← hm]; exact List.mem_map_of_mem hx
  obtain ⟨y, hy, e⟩ := List.mem_map.1 this
  rw [← e]; exact hs y hy
structure ResL (g : GramH) (w wr : World) (lo : Nat) (eA rA : Option Addr) (eC rC : Nat) (es : List EntH) (rs : List RuleH) : Prop where
 out : Blk wr (w.heap.size + 1) 26 #[.string g.name, .slice g.cA g.cats.length g.cC, .string g.start, .int .i64 (idxF g.cats g.start), .slice eA g.entries.length eC, .slice rA g.rules.length rC]
 box : Blk wr (w.heap.size + 3) 176 #[.map (some (w.heap.size + 2))]
 map : ∃ n cnt, MapG Go.Proofs.Tryz.prog 9 litS okS wr (w.heap.size + 2) n (idxV g.cats) cnt
 bel : Below w.heap.size w wr
 ents : OwnL entC 5 107 wr (w.heap.size + 4) (.slice eA g.entries.length eC) es
 rules : OwnL ruleC 5 111 wr (w.heap.size + 4) (.slice rA g.rules.length rC) rs
 elen : es.length = g.entries.length
 rlen : rs.length = g.rules.length
 sep : ∀ a b, (Value.slice eA g.entries.length eC).ownBlock = some a → (Value.slice rA g.rules.length rC).ownBlock = some b → a ≠ b
 loe : ∀ a, (Value.slice eA g.entries.length eC).ownBlock = some a → a < lo
 lor : ∀ a, (Value.slice rA g.rules.length rC).ownBlock = some a → a < lo
 hlo : lo ≤ wr.heap.size
section
variable {g : GramH} {w wr wr' : World} {lo eC rC : Nat} {eA rA : Option Addr} {es : List EntH} {rs : List RuleH}
theorem ResL.belw (h : ResL g w wr lo eA rA eC rC es rs) (hb : Below wr.heap.size wr wr') : ResL g w wr' lo eA rA eC rC es rs := by
 obtain ⟨n, cnt, h2⟩ := h.map
 exact ⟨h.out.bel hb, h.box.bel hb, ⟨n, cnt, h2.bel hb⟩, kcall h.bel hb, h.ents.bel hb, h.rules.bel hb, h.elen, h.rlen, h.sep, h.loe, h.lor, Nat.le_trans h.hlo hb.size⟩
theorem ResL.entSet (h : ResL g w wr lo eA rA eC rC es rs) {k : Nat} {x : EntH} (hx : es[k]? = some x) : ∃ a, eA = some ⟨a, 0, none⟩ ∧ a < wr.heap.size ∧ (∀ j, wr.frozen? ⟨a, j, none⟩ = false) ∧
  wr.cell? ⟨a, k * 5, none⟩ = some (.string x.text) ∧ wr.cell? ⟨a, k * 5 + 1, none⟩ = some (.string x.cat) ∧ wr.cell? ⟨a, k * 5 + 2, none⟩ = some (.int .i64 x.catNo) ∧
  ∀ n : Int, ResL g w (wr.setCell ⟨a, k * 5 + 2, none⟩ (.int .i64 n)) lo eA rA eC rC (es.set k { x with catNo := n }) rs := by
 obtain ⟨a, cap, hv, h1, h2, _, _, h3, h4, h5⟩ := own_at h.ents hx
 have hE : eA = some ⟨a, 0, none⟩ := by injection hv
 have hoa : (Value.slice eA g.entries.length eC).ownBlock = some a := by rw [hE]; rfl
 refine ⟨a, hE, h2, h3, by simpa using h4 0 _ rfl, h4 1 _ rfl, h4 2 _ rfl, fun n => ?_⟩
 obtain ⟨n', cnt, hm⟩ := h.map
 refine ⟨h.out.far _ _ (by dsimp only; omega), h.box.far _ _ (by dsimp only; omega), ⟨n', cnt, hm.setCell (by dsimp only; omega) _⟩, h.bel.setCell (by dsimp only; omega) _, h5 2 _ _ _ rfl (by decide) rfl, ?_, by simpa using h.elen, h.rlen, h.sep, h.loe, h.lor, by have := h.hlo; simpa [World.setCell] using this⟩
 refine h.rules.keep fun b hb => Below.heap_setCell _ _ _ _ (fun e => h.sep a b hoa hb e.symm)
theorem ResL.ruleSet (h : ResL g w wr lo eA rA eC rC es rs) {k : Nat} {x : RuleH} (hx : rs[k]? = some x) : ∃ a, rA = some ⟨a, 0, none⟩ ∧ a < wr.heap.size ∧ a < lo ∧ (∀ j, wr.frozen? ⟨a, j, none⟩ = false) ∧
  wr.cell? ⟨a, k * 5, none⟩ = some (.string x.cat) ∧ wr.cell? ⟨a, k * 5 + 1, none⟩ = some (.int .i64 x.catNo) ∧ wr.cell? ⟨a, k * 5 + 2, none⟩ = some (.slice x.pA x.parts.length x.pC) ∧
  (∀ n : Int, ResL g w (wr.setCell ⟨a, k * 5 + 1, none⟩ (.int .i64 n)) lo eA rA eC rC es (rs.set k { x with catNo := n })) ∧
  ∀ (pA : Option Addr) (pC : Nat) (ps : List PartM), ResL g w (wr.setCell ⟨a, k * 5 + 2, none⟩ (.slice pA ps.length pC)) lo eA rA eC rC es (rs.set k { x with pA := pA, pC := pC, parts := ps }) := by
 obtain ⟨a, cap, hv, h1, h2, _, _, h3, h4, h5⟩ := own_at h.rules hx
 have hR : rA = some ⟨a, 0, none⟩ := by injection hv
 have hob : (Value.slice rA g.rules.length rC).ownBlock = some a := by rw [hR]; rfl
 obtain ⟨n', cnt, hm⟩ := h.map
 refine ⟨a, hR, h2, h.lor a hob, h3, by simpa using h4 0 _ rfl, h4 1 _ rfl, h4 2 _ rfl, fun n => ?_, fun pA pC ps => ?_⟩
 ·refine ⟨h.out.far _ _ (by dsimp only; omega), h.box.far _ _ (by dsimp only; omega), ⟨n', cnt, hm.setCell (by dsimp only; omega) _⟩, h.bel.setCell (by dsimp only; omega) _, ?_, h5 1 _ _ _ rfl (by decide) rfl, h.elen, by simpa using h.rlen, h.sep, h.loe, h.lor, by have := h.hlo; simpa [World.setCell] using this⟩
  exact h.ents.keep fun b hb => Below.heap_setCell _ _ _ _ (fun e => h.sep b a hb hob e)
 ·refine ⟨h.out.far _ _ (by dsimp only; omega), h.box.far _ _ (by dsimp only; omega), ⟨n', cnt, hm.setCell (by dsimp only; omega) _⟩, h.bel.setCell (by dsimp only; omega) _, ?_, h5 2 _ _ _ rfl (by decide) rfl, h.elen, by simpa using h.rlen, h.sep, h.loe, h.lor, by have := h.hlo; simpa [World.setCell] using this⟩
  exact h.ents.keep fun b hb => Below.heap_setCell _ _ _ _ (fun e => h.sep b a hb hob e)
theorem ResL.far (h : ResL g w wr lo eA rA eC rC es rs) (p : Addr) (hp : lo ≤ p.block) (hw : w.heap.size + 4 ≤ lo) (u : Value) : ResL g w (wr.setCell p u) lo eA rA eC rC es rs := by
 obtain ⟨n', cnt, hm⟩ := h.map
 refine ⟨h.out.far _ _ (by omega), h.box.far _ _ (by omega), ⟨n', cnt, hm.setCell (by omega) _⟩, h.bel.setCell (by omega) _, ?_, ?_, h.elen, h.rlen, h.sep, h.loe, h.lor, by have := h.hlo; simpa [World.setCell] using this⟩
 ·exact h.ents.keep fun b hb => Below.heap_setCell _ _ _ _ (by have := h.loe b hb; omega)
 ·exact h.rules.keep fun b hb => Below.heap_setCell _ _ _ _ (by have := h.lor b hb; omega)
theorem ResL.reparts (h : ResL g w wr lo eA rA eC rC es rs) {k : Nat} {x : RuleH} (hx : rs[k]? = some x) {ps : List PartM} (hp : ps.length = x.parts.length) : ResL g w wr lo eA rA eC rC es (rs.set k { x with parts := ps }) := by
 refine ⟨h.out, h.box, h.map, h.bel, h.ents, OwnL.recell h.rules ?_, h.elen, by simpa using h.rlen, h.sep, h.loe, h.lor, h.hlo⟩
 rw [List.map_set]
 have e : ruleC { x with parts := ps } = ruleC x := by simp only [ruleC, hp]
 rw [e]
 exact List.ext_getElem? fun i => by
  rw [List.getElem?_set]
  split
  ·rename_i he; subst he
   rw [List.getElem?_map, hx]
   have := lt_of_get hx
   simp [this]
  ·rfl
theorem ResL.look (h : ResL g w wr lo eA rA eC rC es rs) {s : ByteArray} (hs : okS s) : (Instr.lookup 176 (.map (some (w.heap.size + 2))) (.string s) false).run Go.Proofs.Tryz.prog wr = .ok (.int .i64 (idxF g.cats s)) wr := by
 obtain ⟨n, cnt, h2⟩ := h.map
 have e1 : (idxV g.cats s).getD (.int .i64 0) = .int .i64 (idxF g.cats s) := by unfold idxV idxF; cases idxM g.cats s <;> rfl
 have := h2.look Go.Proofs.YtkfdafeonhnloaaGreatDoor.keyS Go.Proofs.Tryz.underlying176 (Go.Proofs.Tryz.zeroValue3 _) hs
 rw [e1] at this
 exact this
structure RulesAt (g : GramH) (w wr : World) (lo k : Nat) (rs : List RuleH) : Prop where
 len : rs.length = g.rules.length
 done : ∀ (i : Nat) (r r' : RuleH), i < k → g.rules[i]? = some r → rs[i]? = some r' → r'.m = resM g.cats r ∧ OwnL partC 3 125 wr lo (.slice r'.pA r'.parts.length r'.pC) r'.parts ∧ Sl giveC 2 w r'.gA r'.gC r'.gives
 rest : ∀ i, k ≤ i → rs[i]? = g.rules[i]?
theorem RulesAt.keep {k : Nat} (h : RulesAt g w wr lo k rs) (hb : ∀ b, lo ≤ b → b < wr.heap.size → wr'.heap[b]? = wr.heap[b]?) : RulesAt g w wr' lo k rs :=
 ⟨h.len, fun i r r' hi h1 h2 => by
  obtain ⟨a1, a2, a3⟩ := h.done i r r' hi h1 h2
  exact ⟨a1, a2.keep fun b hbb => hb b (a2.blk hbb).1 (a2.blk hbb).2.1, a3⟩, h.rest⟩
theorem RulesAt.start (hw : RulesAt g w wr lo 0 g.rules ∨ True) : RulesAt g w wr lo 0 g.rules := ⟨rfl, fun i r r' h => absurd h (Nat.not_lt_zero _), fun _ _ => rfl⟩
theorem RulesAt.next {k : Nat} (h : RulesAt g w wr lo k rs) {r : RuleH} (hr : g.rules[k]? = some r) {r' : RuleH} (hm : r'.m = resM g.cats r) (ho : OwnL partC 3 125 wr lo (.slice r'.pA r'.parts.length r'.pC) r'.parts) (hg : Sl giveC 2 w r'.gA r'.gC r'.gives) : RulesAt g w wr lo (k + 1) (rs.set k r') := by
 refine ⟨by rw [List.length_set]; exact h.len, fun i a a' hi h1 h2 => ?_, fun i hi => ?_⟩
 ·rw [List.getElem?_set] at h2
  split at h2
  ·rename_i e; subst e
   rw [hr] at h1
   cases h1
   split at h2
   ·cases h2; exact ⟨hm, ho, hg⟩
   ·cases h2
  ·exact h.done i a a' (by omega) h1 h2
 ·rw [List.getElem?_set, if_neg (by omega)]
  exact h.rest i (by omega)
end
theorem RulesAt.resM {g : GramH} {w wr : World} {lo : Nat} {rs : List RuleH} (h : RulesAt g w wr lo g.rules.length rs) : rs.map RuleH.m = g.rules.map (resM g.cats) := by
 refine List.ext_getElem? fun i => ?_
 rw [List.getElem?_map, List.getElem?_map]
 by_cases hi : i < g.rules.length
 ·have hi' : i < rs.length := by rw [h.len]; exact hi
  have h1 : rs[i]? = some rs[i] := List.getElem?_eq_getElem hi'
  have h2 : g.rules[i]? = some g.rules[i] := List.getElem?_eq_getElem hi
  rw [h1, h2]
  exact congrArg some (h.done i _ _ hi h2 h1).1
 ·rw [List.getElem?_eq_none (by rw [h.len]; omega), List.getElem?_eq_none (by omega)]; rfl
theorem RulesAt.ok {g : GramH} {w wr : World} {lo : Nat} {rs : List RuleH} (h : RulesAt g w wr lo g.rules.length rs) (hb : Below w.heap.size w wr) : ∀ x ∈ rs, RuleOkW wr x := by
 intro x hx
 obtain ⟨i, hi⟩ := List.getElem?_of_mem hx
 have hl : i < g.rules.length := by rw [← h.len]; exact lt_of_get hi
 obtain ⟨_, h1, h2⟩ := h.done i _ x hl (List.getElem?_eq_getElem hl) hi
 obtain ⟨A', c', e', hs'⟩ := h1.sl
 have ⟨e1, e3⟩ : x.pA = A' ∧ x.pC = c' := by injection e' with e1 e2 e3; exact ⟨e1, e3⟩
 exact ⟨by rw [e1, e3]; exact hs', h2.bel hb⟩
theorem ResL.outSet {g : GramH} {w wr : World} {lo eC rC : Nat} {eA rA : Option Addr} {es : List EntH} {rs : List RuleH} (h : ResL g w wr lo eA rA eC rC es rs) (i : Nat) (u : Value)
  (hc : (#[.string g.name, .slice g.cA g.cats.length g.cC, .string g.start, .int .i64 (idxF g.cats g.start), .slice eA g.entries.length eC, .slice rA g.rules.length rC] : Array Value).setIfInBounds i u = #[.string g.name, .slice g.cA g.cats.length g.cC, .string g.start, .int .i64 (idxF g.cats g.start), .slice eA g.entries.length eC, .slice rA g.rules.length rC]) :
  ResL g w (wr.setCell ⟨w.heap.size + 1, i, none⟩ u) lo eA rA eC rC es rs := by
 obtain ⟨n', cnt, hm⟩ := h.map
 refine ⟨h.out.set i u hc, h.box.far _ _ (by dsimp only; omega), ⟨n', cnt, hm.setCell (by dsimp only; omega) _⟩, h.bel.setCell (by dsimp only; omega) _, ?_, ?_, h.elen, h.rlen, h.sep, h.loe, h.lor, by have := h.hlo; simpa [World.setCell] using this⟩
 ·exact h.ents.keep fun b hb => Below.heap_setCell _ _ _ _ (by have := (h.ents.blk hb).1; dsimp only; omega)
 ·exact h.rules.keep fun b hb => Below.heap_setCell _ _ _ _ (by have := (h.rules.blk hb).1; dsimp only; omega)
theorem RulesAt.outSet {g : GramH} {w wr : World} {lo k : Nat} {rs : List RuleH} (h : RulesAt g w wr lo k rs) (hw : w.heap.size + 4 ≤ lo) (i : Nat) (u : Value) : RulesAt g w (wr.setCell ⟨w.heap.size + 1, i, none⟩ u) lo k rs :=
 h.keep fun b h1 _ => Below.heap_setCell _ _ _ _ (by dsimp only; omega)
theorem ResL.resG {g : GramH} {w wr : World} {lo eC rC : Nat} {eA rA : Option Addr} {rs : List RuleH} (h : ResL g w wr lo eA rA eC rC (g.entries.map (resE g.cats)) rs) (hr : RulesAt g w wr lo g.rules.length rs) :
  ResG wr g ⟨g.name, g.cA, g.cC, g.cats, g.start, idxF g.cats g.start, eA, eC, g.entries.map (resE g.cats), rA, rC, rs⟩ := by
 have hrl := h.rlen
 refine ⟨rfl, rfl, hr.resM, ?_, ?_, hr.ok h.bel⟩
 ·obtain ⟨A', c', e', hs'⟩ := h.ents.sl
  rw [List.length_map] at e'
  obtain ⟨rfl, rfl⟩ : eA = A' ∧ eC = c' := by injection e' with e1 e2 e3; exact ⟨e1, e3⟩
  exact hs'
 ·obtain ⟨A', c', e', hs'⟩ := h.rules.sl
  rw [hrl] at e'
  obtain ⟨rfl, rfl⟩ : rA = A' ∧ rC = c' := by injection e' with e1 e2 e3; exact ⟨e1, e3⟩
  exact hs'
theorem typedB_parts {g : GramH} (h : typedB g = true) : ∀ x ∈ g.rules, x.parts.length ≤ 4 := by
 intro x hx
 unfold typedB at h
 simp only [Bool.and_eq_true, List.all_eq_true] at h
 have h1 := h.2.2.2.2.2 x hx
 unfold ruleB at h1
 simp only [Bool.and_eq_true] at h1
 have h2 := h1.2.1
 unfold inB at h2
 simp only [Bool.and_eq_true, decide_eq_true_eq] at h2
 omega
end Go.Mine.C
