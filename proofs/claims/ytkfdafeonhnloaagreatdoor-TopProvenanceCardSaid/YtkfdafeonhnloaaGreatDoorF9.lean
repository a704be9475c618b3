/-
 translate.Translate.
-/
import Derived.Test.YtkfdafeonhnloaaGreatDoorF8
import Derived.Test.YtkfdafeonhnloaaGreatDoorB13
import Derived.Test.YtkfdafeonhnloaaGreatDoorGM25
import Derived.Test.YtkfdafeonhnloaaGreatDoorD16
namespace Go.Mine.C
open Go.RowKit Go.Mine
def foundT (g : GramH) (words : List Str) (items : List ItemM) : Found := findF (g.rules.map RuleH.m) items (hasW (wsTo words words.length)) 600 g.startNo 0 words.length
def transL (g : GramH) (words : List Str) (items : List ItemM) : List TargM :=
 if (foundT g words items).ok = true then (match (foundT g words items).tree with
  | none => []
  | some t => walkF (g.rules.map RuleH.m) items 600 t []) else coverGo items words.length words.length 0
noncomputable def itemsW (g : GramH) (lang at_ known : Int) (l : List TermH) (words : List Str) : List ItemM := itemsL (tmOf (standL lang at_ known l)) g words
def TransPost (g : GramH) (lang at_ known : Int) (l : List TermH) (words : List Str) (w w' : World) (e : Ending) : Prop :=
 ∃ (v : Value) (wh : Bool) (er : Int), e = .returned (.tuple #[v, .bool wh, .int .i64 er]) ∧ (preI g lang at_ known l words = false → er ≠ 0) ∧ (preI g lang at_ known l words = true → words.all wordB = false → er = 280) ∧
  (er ≠ 0 → v = .slice none 0 0) ∧ (preI g lang at_ known l words = true → words.all wordB = true → ((itemsW g lang at_ known l words).length ≤ 1024 ↔ er = 0)) ∧
  (er = 0 → ∃ ts : List TargH, OwnL targC 3 42 w' w.heap.size v ts ∧ ts.map TargH.m = transL g words (itemsW g lang at_ known l words) ∧ (∀ x ∈ ts, TargOk w' x) ∧ wh = (foundT g words (itemsW g lang at_ known l words)).ok)
structure TakenP (g : GramH) (lang at_ known : Int) (l : List TermH) (words : List Str) : Prop where
 gram : GramP g
 ok : okB g = true
 few : words.length ≤ 16
 words : ∀ s ∈ words, wordB s = true
 tm : ∀ s x, tmOf (standL lang at_ known l) s = some x → rightB x = true
theorem stand_right {lang at_ known : Int} {l : List TermH} (h : standB lang at_ known l = true) : ∀ s x, tmOf (standL lang at_ known l) s = some x → rightB x = true := fun s x hx => by
 have hm : x ∈ l := (List.mem_filter.1 (show x ∈ l.filter _ from tmOf_mem _ s x hx)).1
 unfold standB at h
 rw [Bool.and_eq_true] at h
 have ht := h.1
 unfold termsB at ht
 rw [Bool.and_eq_true] at ht
 exact okTs_right ht.2 x hm
theorem TakenP.of {g : GramH} {lang at_ known : Int} {l : List TermH} {words : List Str} (h1 : preI g lang at_ known l words = true) (h2 : words.all wordB = true) : TakenP g lang at_ known l words := by
 unfold preI at h1
 simp only [Bool.and_eq_true, decide_eq_true_eq] at h1
 exact ⟨okB_gramP h1.1, h1.1, h1.2.2, fun s hs => List.all_eq_true.1 h2 s hs, stand_right h1.2.1⟩
theorem TakenP.item {g : GramH} {lang at_ known : Int} {l : List TermH} {words : List Str} (h : TakenP g lang at_ known l words) : ∀ y ∈ itemsW g lang at_ known l words, ItOkM g.cats.length words.length y := itemsL_mem h.gram h.tm h.words
theorem TakenP.inOk {g : GramH} {lang at_ known : Int} {l : List TermH} {words : List Str} (h : TakenP g lang at_ known l words) : InOk (g.rules.map RuleH.m) (itemsW g lang at_ known l words) :=
 ⟨fun r hr => by
  obtain ⟨x, hx, rfl⟩ := List.mem_map.1 hr
  exact rule_ok (h.gram.rule x hx).1, fun x hx => ⟨(h.item x hx).place.2.1, fun e => by have := (h.item x hx).many.1; rw [e] at this; simp at this⟩⟩
theorem TakenP.wf {g : GramH} {lang at_ known : Int} {l : List TermH} {words : List Str} (h : TakenP g lang at_ known l words) {t : Tree} (ho : (foundT g words (itemsW g lang at_ known l words)).ok = true) (ht : (foundT g words (itemsW g lang at_ known l words)).tree = some t) : WF (g.rules.map RuleH.m) (itemsW g lang at_ known l words) 600 t g.startNo 0 words.length :=
 find_ok h.inOk 600 _ _ _ _ ho ht
theorem TakenP.len {g : GramH} {lang at_ known : Int} {l : List TermH} {words : List Str} (h : TakenP g lang at_ known l words) {t : Tree} (hw : WF (g.rules.map RuleH.m) (itemsW g lang at_ known l words) 600 t g.startNo 0 words.length) : (walkF (g.rules.map RuleH.m) (itemsW g lang at_ known l words) 600 t []).length ≤ 528 * words.length := by
 have h1 := words_len h.gram.rank (fun x hx => by have := (h.item x hx).many.2; omega) hw []
 have h2 := h.gram.rank.lt g.startNo
 have h3 : ((words.length : Int) - 0).toNat = words.length := by omega
 rw [h3] at h1
 omega
theorem cover_len {items : List ItemM} {n : Int} (hI : ∀ x ∈ items, x.target.length ≤ 4) : ∀ (m : Nat) (i : Int), (coverGo items n m i).length ≤ 4 * m
 | 0, _ => by simp [coverGo]
 | m + 1, i => by
  unfold coverGo
  split
  ·cases hb : bestGo i items 0 none with
   | none => have := cover_len (n := n) hI m (i + 1); dsimp only; omega
   | some y =>
    have h1 := cover_len (n := n) hI m y.2.until_
    obtain ⟨h2, _⟩ := bestGo_ok (items := items) (i := i) (l := items) (k := 0) (best := none) rfl (fun y hy => by cases hy)
    have h3 := hI _ (List.mem_of_getElem? (h2 y hb).1)
    dsimp only
    rw [List.length_append]
    unfold leafW
    rw [List.length_map]
    omega
  ·simp
theorem cover_none {items : List ItemM} {n i : Int} {m : Nat} (h : i < n) (hb : bestGo i items 0 none = none) : coverGo items n (m + 1) i = coverGo items n m (i + 1) := by
 conv => lhs; unfold coverGo
 rw [if_pos h, hb]
theorem cover_some {items : List ItemM} {n i : Int} {m : Nat} {y : Nat × ItemM} (h : i < n) (hb : bestGo i items 0 none = some y) : coverGo items n (m + 1) i = leafW y.2 ++ coverGo items n m y.2.until_ := by
 conv => lhs; unfold coverGo
 rw [if_pos h, hb]
def bI : Option (Nat × ItemM) → Int
 | none => -1
 | some y => y.1
theorem best_step {i : Int} {items : List ItemM} {k : Nat} {x : ItemM} {best : Option (Nat × ItemM)} (hx : items[k]? = some x) : bestGo i (items.drop k) k best = bestGo i (items.drop (k + 1)) (k + 1) (if (decide (0 ≤ x.cat) && (decide (x.from_ = i) && longer best x)) = true then some (k, x) else best) := by
 rw [drop_of_get hx]
 conv => lhs; unfold bestGo
end Go.Mine.C
namespace Go.Proofs.YtkfdafeonhnloaaGreatDoor
open Go.RowKit Go.Shelf Go.Mine Go.Mine.C
attribute [local go_sem] Oper.semAt_some
theorem ones50' (l : List TargH) : ∀ x ∈ l, ∀ u ∈ targC x, u.oneCell' = true := ones50 l
structure CovIn (items : List ItemM) (n : Nat) (i : Int) (v : Value) (ts : List TargH) (W2 wr : World) : Prop where
 own : OwnL targC 3 42 wr W2.heap.size v ts
 ok : ∀ x ∈ ts, okTg W2.heap.size (fun _ => False) wr x
 eq : ∃ fuel : Nat, (n : Int) - i ≤ fuel ∧ ts.map TargH.m ++ coverGo items n fuel i = coverGo items n n 0
 bel : Below W2.heap.size W2 wr
 lo : 0 ≤ i ∧ i ≤ (n : Int)
theorem CovIn.belw {items : List ItemM} {n : Nat} {i : Int} {v : Value} {ts : List TargH} {W2 w w' : World} (h : CovIn items n i v ts W2 w) (hb : Below w.heap.size w w') : CovIn items n i v ts W2 w' :=
 ⟨h.own.bel hb, fun x hx => (h.ok x hx).bel hb, h.eq, kcall h.bel hb, h.lo⟩
set_option maxRecDepth 100000 in
set_option maxHeartbeats 8000000 in
theorem translate6 (g : GramH) (lA : Option Addr) (lC : Nat) (l : List TermH) (lang : Int) (wA : Option Addr) (wC : Nat) (words : List ByteArray) (at_ known : Int) (w : World) (hG : GramOk w g) (hgs : GramS g) (hl : Sl termC 8 w lA lC l) (hlo : ∀ x ∈ l, TermOk w x) (hw : Sl sc 1 w wA wC words) (hE : Env w) (hn : 1 ≤ words.length) :
  Calls Tryz.prog 6 #[gramV g, .slice lA l.length lC, .int .i64 lang, .slice wA words.length wC, .int .i64 at_, .int .i64 known] w fun e w' => TransPost g lang at_ known l words w w' e ∧ Below w.heap.size w w' := by
 have hb0 := kalloc (Below.refl w.heap.size w) (.cells #[.string g.name, .slice g.cA g.cats.length g.cC, .string g.start, .int .i64 g.startNo, .slice g.eA g.entries.length g.eC, .slice g.rA g.rules.length g.rC] 26)
 have hg0 := Blk.new w #[.string g.name, .slice g.cA g.cats.length g.cC, .string g.start, .int .i64 g.startNo, .slice g.eA g.entries.length g.eC, .slice g.rA g.rules.length g.rC] 26
 obtain ⟨W0, hW0⟩ : ∃ W0, W0 = w.alloc (.cells #[.string g.name, .slice g.cA g.cats.length g.cC, .string g.start, .int .i64 g.startNo, .slice g.eA g.entries.length g.eC, .slice g.rA g.rules.length g.rC] 26) := ⟨_, rfl⟩
 rw [← hW0] at hb0 hg0
 have K13 := items13 g lA lC l lang wA wC words at_ known W0 (hG.bel hb0) hgs (hl.bel hb0) (fun x hx => (hlo x hx).bel hb0) (hw.bel hb0) (hE.bel hb0)
 simp only [gramV] at K13 ⊢
 replace K13 := hide K13
 have HB0 := hide hb0
 have HG0 := hide hg0
 have HG := hide hG
 have HGS := hide hgs
 have HE := hide hE
 have HIW := hide (show itemsW g lang at_ known l words = itemsL (tmOf (standL lang at_ known l)) g words from rfl)
 have hll := hl.le
 have hlm := hl.max
 have hwl := hw.le
 have hwm := hw.max
 generalize hnw : words.length = nw at *
 have HNW := hide hnw
 clear hG hgs hl hlo hw hE hb0 hg0 hnw
 go_enter Tryz.func6, Tryz.ntmps6
 go_wp2_with fail
 rw [← hW0]
 refine K13.out.mono ?_
 rintro e W1 ⟨⟨v, er, rfl, p1, p2, p3, p4, p5⟩, hb1⟩
 have HBW1 := hide (kcall HB0.out hb1)
 have HG1 := hide (HG0.out.bel hb1)
 have HP1 := hide p1
 have HP2 := hide p2
 have HP3 := hide p3
 have HP4 := hide p4
 have HP5 := hide p5
 clear p1 p2 p3 p4 p5 hb1 K13 hW0
 by_cases h0 : er = 0
 case neg =>
  have g1 : (er == 0) = false := by simpa using h0
  have g2 : (er != 0) = true := by rw [bne, g1]; rfl
  have HN := hide h0
  have hv := HP3.out h0
  subst hv
  clear h0
  go_wp2
  refine bodyPost_ret (v := .tuple #[.slice none 0 0, .bool false, .int .i64 er]) (by simp [results, Tryz.results6, go_sem]) rfl ?_
  exact ⟨⟨_, _, er, rfl, HP1.out, HP2.out, fun _ => rfl, by rw [HIW.out]; exact HP4.out, fun h => absurd h HN.out⟩, HBW1.out⟩
 subst h0
 have hpre : preI g lang at_ known l words = true := by
  cases h : preI g lang at_ known l words
  ·exact absurd rfl (HP1.out h)
  ·rfl
 have hall : words.all wordB = true := by
  cases h : words.all wordB
  ·have := HP2.out hpre h; cases this
  ·rfl
 have hT := TakenP.of hpre hall
 obtain ⟨is, hown, him, hio⟩ := HP5.out rfl
 have hlen := (HP4.out hpre hall).2 rfl
 rw [← HIW.out] at him hlen
 have hil : is.length ≤ 1024 := by rw [← him, List.length_map] at hlen; exact hlen
 have hiok : ∀ x ∈ is, ItemOk W1 x := fun x hx => (hio x hx).so.sl
 obtain ⟨iA, iC, rfl, hisl⟩ := hown.sl
 have hIO := items_ok (w := W1) hT.gram hT.tm hT.words (by rw [him, HIW.out]) hiok
 have KB := best15 g iA iC is words W1 (HG.out.bel HBW1.out) HGS.out hT.ok hisl hIO (HE.out.bel HBW1.out) ⟨by rw [HNW.out]; exact hn, hT.few⟩ (by omega) 33 (rkOf g) hT.gram.rank 600 (by decide) hT.gram.parts
  (fun r hr p hp => by have := hT.gram.partNo r hr p hp; unfold I64; omega) (by have := hT.gram.startNo; unfold I64; omega) hT.gram.goals
 rw [him] at KB
 have hFd : findF (g.rules.map RuleH.m) (itemsW g lang at_ known l words) (hasW (wsTo words words.length)) 600 g.startNo 0 words.length = foundT g words (itemsW g lang at_ known l words) := rfl
 rw [hFd, HNW.out] at KB
 simp only [gramV] at KB
 replace KB := hide KB
 have HT := hide hT
 have HIM := hide him
 have HISL := hide hisl
 have HIOK := hide hiok
 have HIL := hide hil
 have HPRE := hide hpre
 have HALL := hide hall
 have HDONE : Hid (∀ (v : Value) (wh : Bool) (w' : World) (ts : List TargH), OwnL targC 3 42 w' w.heap.size v ts → ts.map TargH.m = transL g words (itemsW g lang at_ known l words) → (∀ x ∈ ts, TargOk w' x) → wh = (foundT g words (itemsW g lang at_ known l words)).ok → TransPost g lang at_ known l words w w' (.returned (.tuple #[v, .bool wh, .int .i64 0]))) := hide (fun v wh w' ts h1 h2 h3 h4 =>
  ⟨v, wh, 0, rfl, fun h => (by rw [HPRE.out] at h; cases h), fun _ h => (by rw [HALL.out] at h; cases h), fun h => absurd rfl h, fun _ _ => ⟨fun _ => rfl, fun _ => by rw [HIW.out]; exact (HP4.out HPRE.out HALL.out).2 rfl⟩, fun _ => ⟨ts, h1, h2, h3, h4⟩⟩)
 have hile := hisl.le
 have himx := hisl.max
 have c0 := HG1.out.cell (v := .string g.name) 0 rfl
 have c1 := HG1.out.cell (v := .slice g.cA g.cats.length g.cC) 1 rfl
 have c2 := HG1.out.cell (v := .string g.start) 2 rfl
 have c3 := HG1.out.cell (v := .int .i64 g.startNo) 3 rfl
 have c4 := HG1.out.cell (v := .slice g.eA g.entries.length g.eC) 4 rfl
 have c5 := HG1.out.cell (v := .slice g.rA g.rules.length g.rC) 5 rfl
 have cl := HG1.out.lt
 have n1 : ((nw : Int) == 0) = false := by simp; omega
 have n2 : ¬ (nw : Int) = 0 := by omega
 have n3 : ¬ nw = 0 := by omega
 have n4 : (nw == 0) = false := by simpa using n3
 generalize hF : foundT g words (itemsW g lang at_ known l words) = F at *
 have HF := hide hF
 clear hT him hown hio hlen hiok hIO hFd hpre hall hisl HP1 HP2 HP3 HP4 HP5 hF
 go_wp2_with fail
 refine KB.out.mono ?_
 rintro e W2 ⟨h, rfl, hfr, hb2⟩
 have hfr2 := hfr.more (X' := fun _ => False) (fun b h => h.elim)
 have HBW2 := hide (kcall HBW1.out hb2)
 have HB12 := hide hb2
 have HG2 := hide (HG1.out.bel hb2)
 have HFR := hide hfr2
 clear hfr hfr2 hb2 KB c0 c1 c2 c3 c4 c5 cl n1 n2 n3 n4
 simp only [treeV]
 obtain ⟨W3, hW3⟩ : ∃ W3, W3 = W2.alloc (.cells #[.int .i64 h.rule, .int .i64 h.item, .int .i64 h.from_, .int .i64 h.until_, .slice h.kA h.kids.length h.kC] 52) := ⟨_, rfl⟩
 have hb3 : Below W2.heap.size W2 W3 := by rw [hW3]; exact kalloc (Below.refl _ _) _
 have HT16 : Hid (Blk W3 W2.heap.size 52 #[.int .i64 h.rule, .int .i64 h.item, .int .i64 h.from_, .int .i64 h.until_, .slice h.kA h.kids.length h.kC]) := hide (by rw [hW3]; exact Blk.new W2 _ _)
 have HB23 := hide hb3
 have HBW3 := hide (kcall HBW2.out hb3)
 have HG3 := hide (HG2.out.bel hb3)
 have c0 := HG2.out.cell (v := .string g.name) 0 rfl
 have c1 := HG2.out.cell (v := .slice g.cA g.cats.length g.cC) 1 rfl
 have c2 := HG2.out.cell (v := .string g.start) 2 rfl
 have c3 := HG2.out.cell (v := .int .i64 g.startNo) 3 rfl
 have c4 := HG2.out.cell (v := .slice g.eA g.entries.length g.eC) 4 rfl
 have c5 := HG2.out.cell (v := .slice g.rA g.rules.length g.rC) 5 rfl
 have cl := HG2.out.lt
 have HIS3 : Hid (∀ W, Below W3.heap.size W3 W → Sl itemC 6 W iA iC is ∧ (∀ x ∈ is, ItemOk W x) ∧ GramOk W g) := hide (fun W hb => ⟨((HISL.out.bel HB12.out).bel HB23.out).bel hb, fun x hx => (((HIOK.out x hx).bel HB12.out).bel HB23.out).bel hb, (HG.out.bel HBW3.out).bel hb⟩)
 have HBT13 := hide (show W1.heap.size ≤ W3.heap.size from Nat.le_trans HB12.out.size HB23.out.size)
 have HK25 := hide (fun (hh : TreeH) (W : World) => words25 g iA is.length iC hh W)
 simp only [gramV, treeV] at HK25
 cases hok : F.ok
 case true =>
  have HOKF := hide hok
  clear hok hb3
  obtain ⟨t, ht, htr⟩ := HFR.out.yes HOKF.out
  have hwf := HT.out.wf (t := t) (by rw [HF.out]; exact HOKF.out) (by rw [HF.out]; exact ht)
  have hlw := HT.out.len hwf
  rw [← HIM.out] at hwf hlw
  have HWF := hide hwf
  have HTR := hide htr
  have HLW := hide hlw
  have HTL := hide (show transL g words (itemsW g lang at_ known l words) = walkF (g.rules.map RuleH.m) (is.map ItemH.m) 600 t [] by
   unfold transL
   rw [HF.out, if_pos HOKF.out, ht, HIM.out])
  have hnw16 : nw ≤ 16 := by have := HT.out.few; have := HNW.out; omega
  clear hwf htr hlw ht
  go_wp2_with fail
  rw [← hW3]
  refine (HK25.out h W3).mono ?_
  rintro e W4 ⟨rfl, b1, b2, b3, hb4⟩
  obtain ⟨his4, hio4, hg4⟩ := HIS3.out W4 hb4
  have htr4 := (HTR.out.keep (KeepT.bel HB23.out)).keep (KeepT.bel hb4)
  have hbw4 := kcall HBW3.out hb4
  have hnws : words.length = nw := HNW.out
  have K24 := hide (all24 (iC := iC) (items := is) h (walkF (g.rules.map RuleH.m) (is.map ItemH.m) 600 t []) w.heap.size hbw4.size b1 b2 b3 (walkOne_tree hg4 HT.out.gram his4 hio4 (by decide) HWF.out (Int.le_refl _) (by omega) htr4) (by have := HLW.out; omega))
  have HBW4 := hide hbw4
  clear b1 b2 b3 hb4 his4 hio4 hg4 htr4 hbw4 hnws hW3
  go_wp2_with fail
  refine K24.out.mono ?_
  rintro e W5 ⟨v5, hs, rfl, ho5, hm5, hok5, _, hb5⟩
  have HO5 := hide ho5
  have HM5 := hide hm5
  have HOK5 := hide hok5
  have HBW5 := hide (kcall HBW4.out hb5)
  clear ho5 hm5 hok5 hb5 K24
  go_wp2
  refine bodyPost_ret (v := .tuple #[v5, .bool true, .int .i64 0]) (by simp [results, Tryz.results6, go_sem]) rfl ?_
  exact ⟨HDONE.out v5 true W5 hs HO5.out (by rw [HM5.out, HTL.out]) (fun x hx => (HOK5.out x hx).so.sl) HOKF.out.symm, HBW5.out⟩
 case false =>
  have HTL := hide (show transL g words (itemsW g lang at_ known l words) = coverGo (is.map ItemH.m) nw nw 0 by
   unfold transL
   rw [HF.out, if_neg (by rw [hok]; decide), HIM.out, HNW.out])
  have HOKF := hide hok
  have HITP := hide (fun y (hy : y ∈ is.map ItemH.m) => HT.out.item y (by rw [← HIM.out]; exact hy))
  have HCL := hide (cover_len (items := is.map ItemH.m) (n := (nw : Int)) (fun x hx => (HITP.out x hx).many.2))
  obtain ⟨i1, hi1, hz0, hz1, hz2⟩ := info_parts Tryz_infoA42
  have HI := hide hi1
  have hnw16 : nw ≤ 16 := by have := HT.out.few; have := HNW.out; omega
  have H0 : Hid (CovIn (is.map ItemH.m) nw 0 (.slice none 0 0) [] W3 W3) := hide ⟨OwnL.nil _ _ _ _ _, by simp, ⟨nw, by omega, by simp⟩, Below.refl _ _, by omega⟩
  clear hok hb3 hi1 HFR HB12 HG1 HT16
  go_wp2_with fail
  rw [← hW3]
  clear hW3 c0 c1 c2 c3 c4 c5 cl
  go_loopw [12, 19] (fun v iv wr => ∃ (i : Int) (ts : List TargH), iv = .int .i64 i ∧ Hid (CovIn (is.map ItemH.m) nw i v ts W3 wr)) (fun _ iv _ => ((nw : Int) - Go.Mine.nI iv).toNat)
  case atStart => exact ⟨0, [], rfl, H0⟩
  case round =>
   clear H0
   obtain ⟨i, ts, rfl, HC⟩ := hrel
   have hlo := HC.out.lo
   by_cases hlt : i < (nw : Int)
   ·have g1 : decide (i < (nw : Int)) = true := decide_eq_true hlt
    obtain ⟨wo, hwo⟩ : ∃ x, x = wr := ⟨_, rfl⟩
    subst hwo
    have HB00 := hide (show bestGo i ((is.map ItemH.m).drop 0) 0 none = bestGo i (is.map ItemH.m) 0 none by rw [List.drop_zero])
    go_wp2_with fail
    go_loopw [20, 65] (fun bv kv wi => ∃ (k : Nat) (best : Option (Nat × ItemM)), k ≤ is.length ∧ kv = .int .i64 k ∧ bv = .int .i64 (bI best) ∧ Hid (bestGo i ((is.map ItemH.m).drop k) k best = bestGo i (is.map ItemH.m) 0 none) ∧ Hid (∀ y, best = some y → (is.map ItemH.m)[y.1]? = some y.2) ∧ Hid (Below wo.heap.size wo wi)) (fun _ kv _ => is.length - (Go.Mine.nI kv).toNat)
    case atStart => exact ⟨0, none, Nat.zero_le _, rfl, rfl, HB00, hide (fun y h => by cases h), hide (Below.refl _ _)⟩
    case round =>
     clear HB00
     obtain ⟨k, best, hk, rfl, rfl, HBE, HBM, HBB⟩ := hrel
     have hsl := (HIS3.out wr (kcall HC.out.bel HBB.out)).1
     by_cases hkl : k < is.length
     ·obtain ⟨x, ib, io, hx, _, hA, hbw, d0, d1, d2, d3, d4, d5⟩ := item_at hsl hkl
      have hxm : (is.map ItemH.m)[k]? = some x.m := by rw [List.getElem?_map, hx]; rfl
      have hbs := best_step (i := i) (best := best) hxm
      rw [HBE.out] at hbs
      have HBS := hide hbs.symm
      have HBB2 : Hid (∀ o, Below wo.heap.size wo (wr.alloc o).drew) := hide (fun o => (kcall HBB.out (kalloc (Below.refl _ _) o)).drew)
      clear hbs hxm
      have HBF : Hid (∀ y, best = some y → ∃ (z : ItemH), is[y.1]? = some z ∧ z.m = y.2) := hide (fun y hy => by
       have := HBM.out y hy
       rw [List.getElem?_map] at this
       cases hz : is[y.1]? with
       | none => rw [hz] at this; cases this
       | some z => rw [hz] at this; exact ⟨z, rfl, Option.some.inj this⟩)
      have HXM := hide (show (is.map ItemH.m)[k]? = some x.m by rw [List.getElem?_map, hx]; rfl)
      have HSB : Hid (∀ (b' : Option (Nat × ItemM)) (o : Obj), (if (decide (0 ≤ x.m.cat) && (decide (x.m.from_ = i) && longer best x.m)) = true then some (k, x.m) else best) = b' → (∀ y, b' = some y → (is.map ItemH.m)[y.1]? = some y.2) → Hid (bestGo i ((is.map ItemH.m).drop (k + 1)) (k + 1) b' = bestGo i (is.map ItemH.m) 0 none) ∧ Hid (∀ y, b' = some y → (is.map ItemH.m)[y.1]? = some y.2) ∧ Hid (Below wo.heap.size wo (wr.alloc o).drew)) := hide (fun b' o h1 h2 => ⟨hide (by rw [← h1]; exact HBS.out), hide h2, hide (HBB2.out o)⟩)
      have hxc : x.m.cat = x.cat := rfl
      have hxf : x.m.from_ = x.from_ := rfl
      have hxu : x.m.until_ = x.until_ := rfl
      have HNEW := hide (fun (y : Nat × ItemM) (h : some (k, x.m) = some y) => show (is.map ItemH.m)[y.1]? = some y.2 by cases h; exact HXM.out)
      cases hA
      by_cases hc1 : 0 ≤ x.cat
      ·have q1 : decide (0 ≤ x.cat) = true := decide_eq_true hc1
       by_cases hc2 : x.from_ = i
       ·have q2 : (x.from_ == i) = true := by simpa using hc2
        cases best with
        | none =>
         have HR := hide (fun o => HSB.out (some (k, x.m)) o (by rw [hxc, hxf, q1, decide_eq_true hc2]; rfl) HNEW.out)
         rw [show bI none = -1 from rfl]
         clear hx HBE HBM HBB HBS HBB2 HBF HSB hsl hxc hxf hxu hc1 hc2
         go_wp2_with fail
         refine wp_still_all (by kernel_rfl) (by kernel_rfl) ?_
         repeat (first | ((with_reducible refine wpStill_step (fun K hK => ?_)); go_simp; (try go_bits); (with_reducible refine hK _ ?_); clear hK K) | ((with_reducible refine wpStill_step (fun K hK => ?_)); go_simp; rw [if_neg (by simp [undef])]; (with_reducible refine hK _ ?_); clear hK K))
         (with_reducible refine wpStill_nil ?_)
         go_wp2
         go_roundw
         case rel => exact ⟨k + 1, some (k, x.m), by omega, by go_num, rfl, HR.out _⟩
         case measure => simp [Go.Mine.nI]; omega
        | some y =>
         obtain ⟨yk, yx⟩ := y
         obtain ⟨z, hz, hzm⟩ := HBF.out _ rfl
         obtain ⟨z', ib', io', hz', _, hA', _, _, _, e2, _, _, _⟩ := item_at hsl (k := yk) (lt_of_get hz)
         obtain rfl : z = z' := by rw [hz] at hz'; exact Option.some.inj hz'
         cases hA'
         have hyl := lt_of_get hz
         have hzu : yx.until_ = z.until_ := (congrArg ItemM.until_ hzm).symm
         by_cases hc4 : z.until_ < x.until_
         ·have q4 : decide (z.until_ < x.until_) = true := decide_eq_true hc4
          have HR := hide (fun o => HSB.out (some (k, x.m)) o (if_pos (by rw [Bool.and_eq_true, Bool.and_eq_true]; exact ⟨decide_eq_true hc1, decide_eq_true hc2, decide_eq_true (show yx.until_ < x.until_ by omega)⟩)) HNEW.out)
          rw [show bI (some (yk, yx)) = (yk : Int) from rfl]
          have q3 : decide ((yk : Int) < 0) = false := decide_eq_false (by omega)
          clear hx HBE HBM HBB HBS HBB2 HBF HSB hsl hxc hxf hxu hc1 hc2 hz hz' hzm hzu hc4
          go_wp2_with fail
          refine wp_still_all (by kernel_rfl) (by kernel_rfl) ?_
          repeat (first | ((with_reducible refine wpStill_step (fun K hK => ?_)); go_simp; (try go_bits); (with_reducible refine hK _ ?_); clear hK K) | ((with_reducible refine wpStill_step (fun K hK => ?_)); go_simp; rw [if_neg (by simp [undef])]; (with_reducible refine hK _ ?_); clear hK K))
          (with_reducible refine wpStill_nil ?_)
          go_wp2
          go_roundw
          case rel => exact ⟨k + 1, some (k, x.m), by omega, by go_num, rfl, HR.out _⟩
          case measure => simp [Go.Mine.nI]; omega
         ·have q4 : decide (z.until_ < x.until_) = false := decide_eq_false hc4
          have HR := hide (fun o => HSB.out (some (yk, yx)) o (if_neg (by rw [Bool.and_eq_true, Bool.and_eq_true]; rintro ⟨_, _, h⟩; have : yx.until_ < x.until_ := of_decide_eq_true h; omega)) HBM.out)
          rw [show bI (some (yk, yx)) = (yk : Int) from rfl]
          have q3 : decide ((yk : Int) < 0) = false := decide_eq_false (by omega)
          clear hx HBE HBM HBB HBS HBB2 HBF HSB hsl hxc hxf hxu hc1 hc2 hz hz' hzm hzu hc4
          go_wp2_with fail
          refine wp_still_all (by kernel_rfl) (by kernel_rfl) ?_
          repeat (first | ((with_reducible refine wpStill_step (fun K hK => ?_)); go_simp; (try go_bits); (with_reducible refine hK _ ?_); clear hK K) | ((with_reducible refine wpStill_step (fun K hK => ?_)); go_simp; rw [if_neg (by simp [undef])]; (with_reducible refine hK _ ?_); clear hK K))
          (with_reducible refine wpStill_nil ?_)
          go_wp2
          go_roundw
          case rel => exact ⟨k + 1, some (yk, yx), by omega, by go_num, rfl, HR.out _⟩
          case measure => simp [Go.Mine.nI]; omega
       ·have q2 : (x.from_ == i) = false := by simpa using hc2
        have HR := hide (fun o => HSB.out best o (by rw [hxc, hxf, q1, decide_eq_false hc2]; rfl) HBM.out)
        generalize hbb : bI best = bb
        have HBI := hide hbb
        clear hx HBE HBM HBB HBS HBB2 HBF HSB hsl hxc hxf hxu hc1 hc2 hbb
        go_wp2_with fail
        refine wp_still_all (by kernel_rfl) (by kernel_rfl) ?_
        repeat (first | ((with_reducible refine wpStill_step (fun K hK => ?_)); go_simp; (try go_bits); (with_reducible refine hK _ ?_); clear hK K) | ((with_reducible refine wpStill_step (fun K hK => ?_)); go_simp; rw [if_neg (by simp [undef])]; (with_reducible refine hK _ ?_); clear hK K))
        (with_reducible refine wpStill_nil ?_)
        go_wp2
        go_roundw
        case rel => exact ⟨k + 1, best, by omega, by go_num, by rw [HBI.out], HR.out _⟩
        case measure => simp [Go.Mine.nI]; omega
      ·have q1 : decide (0 ≤ x.cat) = false := decide_eq_false hc1
       have HR := hide (fun o => HSB.out best o (by rw [hxc, q1]; rfl) HBM.out)
       generalize hbb : bI best = bb
       have HBI := hide hbb
       clear hx HBE HBM HBB HBS HBB2 HBF HSB hsl hxc hxf hxu hc1 hbb
       go_wp2_with fail
       refine wp_still_all (by kernel_rfl) (by kernel_rfl) ?_
       repeat (first | ((with_reducible refine wpStill_step (fun K hK => ?_)); go_simp; (try go_bits); (with_reducible refine hK _ ?_); clear hK K) | ((with_reducible refine wpStill_step (fun K hK => ?_)); go_simp; rw [if_neg (by simp [undef])]; (with_reducible refine hK _ ?_); clear hK K))
       (with_reducible refine wpStill_nil ?_)
       go_wp2
       go_roundw
       case rel => exact ⟨k + 1, best, by omega, by go_num, by rw [HBI.out], HR.out _⟩
       case measure => simp [Go.Mine.nI]; omega
     ·obtain rfl : k = is.length := by omega
      have hbe := HBE.out
      rw [List.drop_of_length_le (by rw [List.length_map]; exact Nat.le_refl _)] at hbe
      have hbe' : best = bestGo i (is.map ItemH.m) 0 none := hbe
      have hcov := HC.out.belw HBB.out
      obtain ⟨fuel, hfu, heq⟩ := hcov.eq
      obtain ⟨fu, rfl⟩ : ∃ fu, fuel = fu + 1 := ⟨fuel - 1, by omega⟩
      cases best with
      | none =>
       rw [cover_none hlt hbe'.symm] at heq
       have HN : Hid (CovIn (is.map ItemH.m) nw (i + 1) _ ts W3 wr) := hide ⟨hcov.own, hcov.ok, ⟨fu, by omega, heq⟩, hcov.bel, by omega⟩
       rw [show bI none = -1 from rfl]
       clear hbe hbe' hcov heq HBE HBM HBB HC hsl
       go_wp2
       go_roundw
       case rel => exact ⟨i + 1, ts, by go_num, HN⟩
       case measure => simp [Go.Mine.nI]; omega
      | some y =>
       obtain ⟨yk, yx⟩ := y
       rw [cover_some hlt hbe'.symm] at heq
       have hym := HBM.out _ rfl
       rw [List.getElem?_map] at hym
       cases hz : is[yk]? with
       | none => rw [hz] at hym; cases hym
       | some z =>
        rw [hz] at hym
        obtain rfl : z.m = yx := Option.some.inj hym
        dsimp only at heq
        obtain ⟨z', zb, zo, hz', _, hA, hzbw, _, _, e2, _, _, _⟩ := item_at hsl (k := yk) (lt_of_get hz)
        obtain rfl : z = z' := by rw [hz] at hz'; exact Option.some.inj hz'
        cases hA
        have hyl := lt_of_get hz
        have hplace := (HITP.out z.m (List.mem_map_of_mem (List.mem_of_getElem? hz))).place
        have hpl1 : 0 ≤ z.from_ ∧ z.from_ < z.until_ ∧ z.until_ ≤ (nw : Int) := ⟨hplace.1, hplace.2.1, by have := hplace.2.2.1; rw [HNW.out] at this; exact this⟩
        have hzf : z.from_ = i := by
         obtain ⟨h1, _⟩ := bestGo_ok (items := is.map ItemH.m) (i := i) (l := is.map ItemH.m) (k := 0) (best := none) rfl (fun y hy => by cases hy)
         exact (h1 _ hbe'.symm).2.2
        have hlen : (ts.map TargH.m).length + (leafW z.m).length ≤ 64 := by
         have h1 := congrArg List.length heq
         have h2 := HCL.out nw 0
         rw [List.length_append, List.length_append] at h1
         omega
        have HLEN := hide hlen
        have HEQ := hide heq
        have HCV := hide hcov
        have HZ := hide hz
        have HFU := hide hfu
        have HPL := hide hpl1
        have hg4 := HG3.out.bel hcov.bel
        have c0 := hg4.cell (v := .string g.name) 0 rfl
        have c1 := hg4.cell (v := .slice g.cA g.cats.length g.cC) 1 rfl
        have c2 := hg4.cell (v := .string g.start) 2 rfl
        have c3 := hg4.cell (v := .int .i64 g.startNo) 3 rfl
        have c4 := hg4.cell (v := .slice g.eA g.entries.length g.eC) 4 rfl
        have c5 := hg4.cell (v := .slice g.rA g.rules.length g.rC) 5 rfl
        have cl := hg4.lt
        rw [show bI (some (yk, z.m)) = (yk : Int) from rfl]
        have q3 : decide ((yk : Int) < 0) = false := decide_eq_false (by omega)
        obtain ⟨WL, hWL⟩ : ∃ WL, WL = wr.alloc (.cells #[.int .i64 (-1), .int .i64 yk, .int .i64 0, .int .i64 0, .slice none 0 0] 52) := ⟨_, rfl⟩
        have HBL : Hid (Below wr.heap.size wr WL) := hide (by rw [hWL]; exact kalloc (Below.refl _ _) _)
        have K25 := hide (HK25.out ⟨-1, yk, 0, 0, none, 0, []⟩ WL)
        dsimp only [List.length_nil] at K25
        obtain ⟨Av, cv, hve, _⟩ := hcov.own.sl
        generalize hnt : ts.length = nt at hve
        subst hve
        have HNT := hide hnt
        clear hbe hbe' hcov heq HBE HBM HBB HC hsl hym hz' hplace hpl1 hlen hg4 hz hfu hnt
        go_wp2_with fail
        rw [← hWL]
        refine K25.out.mono ?_
        rintro e W4 ⟨rfl, b1, b2, b3, hb4⟩
        have hbr4 := kcall HBL.out hb4
        obtain ⟨his4, hio4, hg4'⟩ := HIS3.out W4 (kcall HCV.out.bel hbr4)
        have hz4 := hbr4.size
        have hz3 := HCV.out.bel.size
        have K24 := hide (all24 (iC := iC) (items := is) ⟨-1, yk, 0, 0, none, 0, []⟩ (leafW z.m) W3.heap.size (Nat.le_trans hz3 hz4) b1 b2 b3 (walkOne_leaf his4 hio4 HZ.out ⟨HPL.out.1, HPL.out.2.1, by have := HPL.out.2.2; omega⟩) (by have := HLEN.out; omega))
        have HBR4 := hide hbr4
        clear b1 b2 b3 hb4 his4 hio4 hg4' hbr4 hWL K25 hz4 hz3
        go_wp2_with fail
        refine K24.out.mono ?_
        rintro e W5 ⟨v5, hs, rfl, ho5, hm5, hok5, hgg5, hb5⟩
        have hbr5 := kcall HBR4.out hb5
        have hcv5 := HCV.out.belw hbr5
        have hhl : hs.length = (leafW z.m).length := by rw [← hm5, List.length_map]
        obtain ⟨A5, c5', hve5, hs5⟩ := ho5.sl
        have e2' := hbr5.cell (p := ⟨zb, zo + yk * 6 + 2, none⟩) hzbw
        rw [e2] at e2'
        have hzb5 : zb < W5.heap.size := Nat.lt_of_lt_of_le hzbw hbr5.size
        generalize hnh : hs.length = nh at hve5
        subst hve5
        have HNH := hide hnh
        have HHL := hide hhl
        have HS5 := hide hs5
        have HCV5 := hide hcv5
        have HM5 := hide hm5
        have HOK5 := hide hok5
        have hz35 := hcv5.bel.size
        have HGG := hide hgg5
        have HR5 := hide hbr5.size
        clear ho5 hm5 hok5 hb5 K24 hbr5 hcv5 hs5 hhl hgg5 hnh e2
        have hown5 : OwnL targC 3 42 W5 W3.heap.size (.slice Av nt cv) ts := HCV5.out.own
        have hsl5 : Sl targC 3 W5 A5 c5' hs := HS5.out
        have e1 : (Value.slice A5 nh c5') = .slice A5 hs.length c5' := by rw [HNH.out]
        rw [e1]
        go_wp2_with (at_builtin; refine wpList_append rfl (.tmp 101) (.tmp 106) 34 rfl rfl rfl (run_extend (f := targC) (base := W3.heap.size) (l1 := ts) (l2 := hs) Tryz.underlying34 HI.out hz0 hz1 hz2 rfl (by decide) hown5 hsl5 (ones50' _) ?_ ?_ ?_) ?_)
        ·have h1 := HLEN.out; have h2 := HHL.out; rw [List.length_map] at h1; unfold maxLen; omega
        ·have h1 := HLEN.out; have h2 := HHL.out; rw [List.length_map] at h1; omega
        ·exact hz35
        ·intro v9 w9 hO9 hg9 hat9
         have hne : ∀ b, b < W5.heap.size → (b < W3.heap.size ∨ ∃ cs fz, W5.heap[b]? = some (.cells cs 3 fz)) → some b ≠ (Value.slice Av nt cv).ownBlock := fun b hb hd e => by
          obtain ⟨h1, h2, cur, h3⟩ := hown5.blk e.symm
          rcases hd with hd | ⟨cs, fz, hd⟩
          ·omega
          ·rw [h3] at hd; simp at hd
         have HN : Hid (CovIn (is.map ItemH.m) nw z.until_ v9 (ts ++ hs) W3 w9) := hide ⟨hO9, fun x hx => by
           refine (okTg_ok W3.heap.size).other (show okTg W3.heap.size (fun _ => False) W5 x from ?_) hg9.size (fun b hb hd => hg9.block b hb (hne b hb hd))
           rcases List.mem_append.1 hx with h | h
           ·exact HCV5.out.ok x h
           ·exact HOK5.out x h, ⟨fu, by have := HFU.out; have := HPL.out; omega, by
           rw [List.map_append, HM5.out, List.append_assoc]
           exact HEQ.out⟩, Below.grown HCV5.out.bel hg9 hz35 (fun gg hgg => (hown5.blk hgg).1), ⟨by have := HPL.out; omega, HPL.out.2.2⟩⟩
         have d2 : w9.cell? ⟨zb, zo + yk * 6 + 2, none⟩ = some (.int .i64 z.until_) := by
          rw [gcell hg9 hzb5 ?_ e2']
          intro e
          obtain ⟨h1, h2, cur, h3⟩ := hown5.blk e.symm
          have h4 := HISL.out.lt ⟨zb, zo, none⟩ rfl (by intro h; rw [h] at hyl; simp at hyl)
          dsimp only at h4
          have h5 := HBT13.out
          omega
         have hzb9 : zb < w9.heap.size := Nat.lt_of_lt_of_le hzb5 hg9.size
         obtain ⟨A9, c9, hv9, _⟩ := hO9.sl
         generalize hn9 : (ts ++ hs).length = n9 at hv9
         subst hv9
         have HUN := hide HPL.out
         clear hO9 hg9 hat9 hne hown5 hsl5 e2' hn9
         go_wp2
         go_roundw
         case rel => exact ⟨z.until_, ts ++ hs, rfl, HN⟩
         case measure => have := HUN.out; simp [Go.Mine.nI]; omega
   ·have g1 : decide (i < (nw : Int)) = false := decide_eq_false hlt
    obtain ⟨fuel, hfu, heq⟩ := HC.out.eq
    have hgo : coverGo (is.map ItemH.m) nw fuel i = [] := by
     cases fuel with
     | zero => rfl
     | succ f => unfold coverGo; rw [if_neg hlt]
    rw [hgo, List.append_nil] at heq
    have HEQ := hide heq
    have HBE := hide (kcall HBW3.out HC.out.bel)
    have hown := HC.out.own.mono HBW3.out.size
    have HOW := hide hown
    have HOK := hide HC.out.ok
    obtain ⟨Av, cv, hve, _⟩ := hown.sl
    generalize hnt : ts.length = nt at hve
    subst hve
    clear heq hgo hown HC hfu hnt
    go_wp2
    refine bodyPost_ret (v := .tuple #[.slice Av nt cv, .bool false, .int .i64 0]) (by simp [results, Tryz.results6, go_sem]) rfl ?_
    exact ⟨HDONE.out _ false wr ts HOW.out (by rw [HEQ.out, HTL.out]) (fun x hx => (HOK.out x hx).so.sl) HOKF.out.symm, HBE.out⟩
end Go.Proofs.YtkfdafeonhnloaaGreatDoor
