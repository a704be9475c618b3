/-
 translate.words: the iterator; all words of a derivation, collected.
-/
import Derived.Test.YtkfdafeonhnloaaGreatDoorF7
import Derived.Test.YtkfdafeonhnloaaGreatDoorE1
import Derived.Test.YtkfdafeonhnloaaGreatDoorGM14
namespace Go.Proofs.YtkfdafeonhnloaaGreatDoor
open Go.RowKit Go.Shelf Go.Mine Go.Mine.C
attribute [local go_sem] Oper.semAt_some
def WalkOne (gB iB : Nat) (g : GramH) (iA : Option Addr) (iC : Nat) (items : List ItemH) (w0 : World) (h : TreeH) (L : List TargM) (tb : Nat) : Prop :=
 ∀ (pB wB yB lp base m : Nat) (J : Nat → (Nat → Prop) → World → Prop) (Jx : Unit → (Nat → Prop) → World → Prop) (O : Nat → Prop) (W : World), XStable J → XStable Jx → TgYield (fun b => b < w0.heap.size) lp L.length base m tb L J Jx (fun _ => False) →
  WkIn gB pB iB wB yB lp g iA items.length iC w0 base O W → J 0 O W → (∀ b, O b → base ≤ b ∧ b < W.heap.size) →
  Calls Tryz.prog 56 #[treeV h, .slice none 0 0, .pointer (some ⟨iB, 0, none⟩), .pointer (some ⟨pB, 0, none⟩), .pointer (some ⟨gB, 0, none⟩), .pointer (some ⟨wB, 0, none⟩)] W fun e W' => Kept (fun b => O b ∨ b < w0.heap.size) W W' ∧
   ((e = .returned (.bool true) ∧ J L.length O W') ∨ (e = .returned (.bool false) ∧ Jx () O W'))
section
variable {gB iB : Nat} {g : GramH} {iA : Option Addr} {iC : Nat} {items : List ItemH} {w0 : World} {tb : Nat}
theorem walk56 (hG : GramOk w0 g) (hP : GramP g) (hil : Sl itemC 6 w0 iA iC items) (hio : ∀ x ∈ items, ItemOk w0 x) {pB wB yB lp N base m : Nat} {L : List TargM} {J : Nat → (Nat → Prop) → World → Prop} {Jx : Unit → (Nat → Prop) → World → Prop}
  (hJ : XStable J) (hJx : XStable Jx) (hY : TgYield (fun b => b < w0.heap.size) lp N base m tb L J Jx (fun _ => False)) : ∀ n, WalkSpec gB pB iB wB yB lp N base g iA iC items w0 L J Jx n
 | 0 => fun h t cat f u above A c k0 O W hwf => by cases hwf
 | n + 1 => by
  intro h t cat f u above A c k0 O W hwf hf hu htr hal hk hL ha haE hIn hj hO
  cases hwf with
  | leaf h1 hc hff huu hfu ht =>
   rename_i i x
   rw [List.getElem?_map] at h1
   cases hx : items[i]? with
   | none => rw [hx] at h1; cases h1
   | some xh =>
    have hmx : (items.map ItemH.m)[i]? = some xh.m := by rw [List.getElem?_map, hx]; rfl
    rw [hx] at h1
    obtain rfl : xh.m = x := Option.some.inj h1
    cases htr
    rw [walkF_leaf hmx] at hk hL ⊢
    rw [List.length_map] at hk ⊢
    obtain ⟨xc, xf, xu, xco, tA, tC, tgt, xt⟩ := xh
    have hff' : xf = f := hff
    have huu' : xu = u := huu
    refine walk56_leaf hJ hJx hY hil hio i f u xc xf xu xco tA tC tgt xt hx ⟨by omega, by omega, by omega⟩ above A c k0 O W hk (fun j s hs => hL j _ (by rw [List.getElem?_map]; show (tgt[j]?).map _ = _; rw [hs]; rfl)) ha haE (by omega) hIn hj hO
  | node h1 hc hr hcov =>
   rename_i i r ks
   rw [List.getElem?_map] at h1
   cases hx : g.rules[i]? with
   | none => rw [hx] at h1; cases h1
   | some xh =>
    have hmx : (g.rules.map RuleH.m)[i]? = some xh.m := by rw [List.getElem?_map, hx]; rfl
    rw [hx] at h1
    obtain rfl : xh.m = r := Option.some.inj h1
    cases htr with
    | node hs hkl hkk =>
     rename_i kA kC kids
     rw [walkF_node hmx] at hk hL ⊢
     obtain ⟨xcat, xno, pA, pC, parts, gvA, gvC, gives, xco⟩ := xh
     have hle : f < u := WF.lt (rules := g.rules.map RuleH.m) (items := items.map ItemH.m) (n := n + 1) (t := .node i f u ks) (cat := xno) (.node hmx rfl hr hcov)
     exact walk56_node hJ hJx hY n (walk56 hG hP hil hio hJ hJx hY n) hG i xcat xno pA pC parts gvA gvC gives xco hx (hP.parts _ (List.mem_of_getElem? hx)) hr f u hf hle hu kA kC kids ks hcov hs.sl hkl hkk above A c k0 O W hal hk hL ha haE hIn hj hO
theorem walkOne_tree (hG : GramOk w0 g) (hP : GramP g) (hil : Sl itemC 6 w0 iA iC items) (hio : ∀ x ∈ items, ItemOk w0 x) {n : Nat} (hn : n ≤ 10000) {h : TreeH} {t : Tree} {cat f u : Int} (hwf : WF (g.rules.map RuleH.m) (items.map ItemH.m) n t cat f u) (hf : 0 ≤ f) (hu : u ≤ 16) (htr : TreeR (fun _ => False) w0 h t) :
  WalkOne gB iB g iA iC items w0 h (walkF (g.rules.map RuleH.m) (items.map ItemH.m) n t []) tb := by
 intro pB wB yB lp base m J Jx O W hJ hJx hY hIn hj hO
 have := walk56 hG hP hil hio hJ hJx hY n h t cat f u [] none 0 0 O W hwf hf hu htr (by simp; omega) (by omega) (fun j s hs => by rw [Nat.zero_add]; exact hs) (Sl.nil (by decide)) (fun a ha => by cases ha) hIn hj hO
 rw [Nat.zero_add] at this
 exact this
theorem walkOne_leaf (hil : Sl itemC 6 w0 iA iC items) (hio : ∀ x ∈ items, ItemOk w0 x) {i : Nat} {x : ItemH} (hx : items[i]? = some x) (hp : 0 ≤ x.from_ ∧ x.from_ < x.until_ ∧ x.until_ ≤ 16) : WalkOne gB iB g iA iC items w0 ⟨-1, i, 0, 0, none, 0, []⟩ (leafW x.m) tb := by
 intro pB wB yB lp base m J Jx O W hJ hJx hY hIn hj hO
 have hlen : (leafW x.m).length = x.target.length := by unfold leafW; rw [List.length_map]; rfl
 rw [hlen] at hY ⊢
 obtain ⟨xc, xf, xu, xco, tA, tC, tgt, xt⟩ := x
 have := walk56_leaf hJ hJx hY hil hio i 0 0 xc xf xu xco tA tC tgt xt hx hp [] none 0 0 O W (by rw [Nat.zero_add]; exact Nat.le_refl _) (fun j s hs => by rw [Nat.zero_add]; unfold leafW; rw [List.getElem?_map]; show (tgt[j]?).map _ = _; rw [hs]; rfl) (Sl.nil (by decide)) (fun a ha => by cases ha) (by simp) hIn hj hO
 rw [Nat.zero_add] at this
 exact this
set_option maxRecDepth 100000 in
set_option maxHeartbeats 4000000 in
theorem words51 (tB : Nat) (h : TreeH) (L : List TargM) (hgb : Blk w0 gB 26 #[.string g.name, .slice g.cA g.cats.length g.cC, .string g.start, .int .i64 g.startNo, .slice g.eA g.entries.length g.eC, .slice g.rA g.rules.length g.rC]) (hib : Blk w0 iB 46 #[.slice iA items.length iC])
  (htb : Blk w0 tB 52 #[.int .i64 h.rule, .int .i64 h.item, .int .i64 h.from_, .int .i64 h.until_, .slice h.kA h.kids.length h.kC]) (hW : WalkOne gB iB g iA iC items w0 h L tb) :
  IterG Tryz.prog 51 #[.pointer (some ⟨iB, 0, none⟩), .pointer (some ⟨gB, 0, none⟩), .pointer (some ⟨tB, 0, none⟩)] L.length (Gives targV (fun k h => L[k]? = some h.m) (okTg tb)) none (fun _ => False) (fun b => b < w0.heap.size) w0 := by
 intro n lp J Jx W hwW hRW hJ hJx hY h0
 have hsame : ∀ b, b < w0.heap.size → W.heap[b]? = w0.heap[b]? := fun b hb => (hRW b (.inr hb)).2
 have t0 := Blk.heap htb (hsame tB htb.lt)
 have c0 := t0.cell (v := .int .i64 h.rule) 0 rfl
 have c1 := t0.cell (v := .int .i64 h.item) 1 rfl
 have c2 := t0.cell (v := .int .i64 h.from_) 2 rfl
 have c3 := t0.cell (v := .int .i64 h.until_) 3 rfl
 have c4 := t0.cell (v := .slice h.kA h.kids.length h.kC) 4 rfl
 have cl := t0.lt
 have cl1 : tB < W.heap.size + 1 := by omega
 have cl2 : tB < W.heap.size + 1 + 1 := by omega
 have hmf : ∀ (fn : Fn) (first cap : Array Value) (w : World), (Instr.makeFunc fn first cap).run Tryz.prog w = .ok (.func fn first cap) w := fun _ _ _ _ => rfl
 have HK : Hid (∀ W3, Below W.heap.size W W3 → W.heap.size + 3 ≤ W3.heap.size → Blk W3 W.heap.size 113 #[.func (.yield lp) #[] #[]] → Blk W3 (W.heap.size + 2) 118 #[.func (.func 52) #[] #[.pointer (some ⟨W.heap.size, 0, none⟩)]] →
   Blk W3 (W.heap.size + 1) 114 #[.func (.func 56) #[] #[.pointer (some ⟨iB, 0, none⟩), .pointer (some ⟨W.heap.size + 2, 0, none⟩), .pointer (some ⟨gB, 0, none⟩), .pointer (some ⟨W.heap.size + 1, 0, none⟩)]] →
   Calls Tryz.prog 56 #[treeV h, .slice none 0 0, .pointer (some ⟨iB, 0, none⟩), .pointer (some ⟨W.heap.size + 2, 0, none⟩), .pointer (some ⟨gB, 0, none⟩), .pointer (some ⟨W.heap.size + 1, 0, none⟩)] W3 fun e W' => ∃ O, (∀ b, O b → (False ∨ W.heap.size ≤ b) ∧ b < W'.heap.size) ∧ W.heap.size ≤ W'.heap.size ∧
    ((e = .returned (.bool true) ∧ J L.length O W') ∨ (e = .returned (.bool false) ∧ Jx () O W'))) := hide (fun W3 hb hz hy hp hw => by
  refine (hW (W.heap.size + 2) (W.heap.size + 1) W.heap.size lp W.heap.size (n - 1) J Jx (fun b => W.heap.size ≤ b ∧ b < W3.heap.size) W3 hJ hJx (fun k x O W1 => hY k x O W1) ⟨Blk.heap hgb ((hb.block _ (Nat.lt_of_lt_of_le hgb.lt hwW)).trans (hsame _ hgb.lt)), Blk.heap hib ((hb.block _ (Nat.lt_of_lt_of_le hib.lt hwW)).trans (hsame _ hib.lt)), hy, hp, hw, ⟨hgb.lt, hib.lt⟩, ⟨⟨by omega, by omega⟩, ⟨by omega, by omega⟩, ⟨by omega, by omega⟩⟩,
   fun b hb' => (hb.block b (Nat.lt_of_lt_of_le hb' hwW)).trans (hsame b hb'), ⟨hwW, hb.size⟩⟩ (hJ _ _ _ _ _ h0 (XStep.of_below hb fun b hb => .inr hb)) (fun b hb => hb)).mono ?_
  rintro e W' ⟨hK, h⟩
  exact ⟨_, fun b hb => ⟨.inr hb.1, Nat.lt_of_lt_of_le hb.2 hK.size⟩, Nat.le_trans hb.size hK.size, h⟩)
 simp only [treeV] at HK
 have eg := e56
 clear hY h0 hRW hgb hib htb hW hJ hJx hsame t0
 refine callsIn_of_wp Tryz.func51 rfl trivial ?_ rfl
 simp only [Tryz.ntmps51]
 simp only [List.size_toArray, List.length_cons, List.length_nil, Nat.reduceAdd, Nat.reduceSub, Array.replicate_succ, Array.replicate_zero, List.push_toArray, List.append_toArray, List.nil_append, List.cons_append]
 gi_wp2_with fail
 refine (callsIn_wide.2 (HK.out _ (kalloc (kalloc (kalloc (Below.refl _ _) _) _) _) (by simp) (((Blk.new W _ _).alloc _).alloc _) (Blk.new2 W _ _ _ _) ((Blk.new1 W _ _ _).alloc _))).mono ?_
 rintro e W' ⟨O, hO, hz, (⟨rfl, h⟩ | ⟨rfl, h⟩)⟩
 ·gi_wp2
  refine bodyPost_end (results_none rfl _ _ _) rfl ?_
  exact ⟨O, hO, hz, .inl ⟨⟨_, rfl⟩, h⟩⟩
 ·gi_wp2
  refine bodyPost_end (results_none rfl _ _ _) rfl ?_
  exact ⟨O, hO, hz, .inr ⟨⟨_, rfl⟩, h⟩⟩
end
theorem words25 (g : GramH) (iA : Option Addr) (nI iC : Nat) (h : TreeH) (w : World) : Calls Tryz.prog 25 #[gramV g, .slice iA nI iC, treeV h] w fun e w' => e = .returned (.func (.func 51) #[] #[.pointer (some ⟨w.heap.size + 1, 0, none⟩), .pointer (some ⟨w.heap.size, 0, none⟩), .pointer (some ⟨w.heap.size + 2, 0, none⟩)]) ∧
  Blk w' w.heap.size 26 #[.string g.name, .slice g.cA g.cats.length g.cC, .string g.start, .int .i64 g.startNo, .slice g.eA g.entries.length g.eC, .slice g.rA g.rules.length g.rC] ∧ Blk w' (w.heap.size + 1) 46 #[.slice iA nI iC] ∧
  Blk w' (w.heap.size + 2) 52 #[.int .i64 h.rule, .int .i64 h.item, .int .i64 h.from_, .int .i64 h.until_, .slice h.kA h.kids.length h.kC] ∧ Below w.heap.size w w' := by
 simp only [gramV, treeV]
 have hmf : ∀ (fn : Fn) (first cap : Array Value) (w : World), (Instr.makeFunc fn first cap).run Tryz.prog w = .ok (.func fn first cap) w := fun _ _ _ _ => rfl
 go_enter Tryz.func25, Tryz.ntmps25
 go_wp2
 go_ret
 exact ⟨rfl, ((Blk.new w _ _).alloc _).alloc _, (Blk.new1 w _ _ _).alloc _, Blk.new2 w _ _ _ _, kalloc (kalloc (kalloc (Below.refl _ _) _) _) _⟩
theorem e51 : ∀ args w, (callFunc 51 args).run Tryz.prog w = .ok (.enter 51 args) w := enters_of Tryz.func51 (by kernel_rfl) rfl
theorem collect24 (G : Nat) (lb : Array Value) (eg : ∀ args w, (callFunc G args).run Tryz.prog w = .ok (.enter G args) w) (N : Nat) (M : Nat → TargH → Prop) (Ok : (Nat → Prop) → World → TargH → Prop) (base : Nat) (hP : OkP 3 base Ok) (O0 R : Nat → Prop) (w0 : World)
  (hit : IterG Tryz.prog G lb N (Gives targV M Ok) none O0 R w0) (hR : ∀ b, (O0 b ∨ R b) → b < w0.heap.size) (hbase : base ≤ w0.heap.size) (hN : N ≤ 1000000) :
  Calls Tryz.prog 24 #[.func (.func G) #[] lb] w0 fun e w' => KeptBut O0 w0 w' ∧ SeqEnd targC 3 42 M Ok N base [] (.slice none 0 0) w0.heap.size none e w' := by
 have K := hide ((appendSeq50 G lb eg N M Ok base hP none O0 R w0 hit hR hbase (.slice none 0 0) [] (seq_nil base) (fun g hg => by simp [Value.ownBlock] at hg) (by simpa using hN)).mono (R' := fun e w' => KeptBut O0 w0 w' ∧ SeqEnd targC 3 42 M Ok N base [] (.slice none 0 0) w0.heap.size none e w')
  fun e w' h => ⟨h.1.mono fun x hx => by rcases hx with hx | hx; exact hx; simp [Value.ownBlock] at hx, h.2⟩)
 clear hit hR
 go_enter Tryz.func24, Tryz.ntmps24
 go_wp2_with fail
 refine K.out.mono ?_
 rintro e w1 ⟨hk, u, hs, O, rfl, h1, h2, h3⟩
 have HK := hide hk
 have H1 := hide h1
 have H2 := hide h2
 have H3 := hide h3
 clear hk h1 h2 h3 K
 go_wp2
 go_ret
 exact ⟨HK.out, u, hs, O, rfl, H1.out, H2.out, H3.out⟩
theorem all24 {g : GramH} {iA : Option Addr} {iC : Nat} {items : List ItemH} {w1 : World} {gB iB tB : Nat} (h : TreeH) (L : List TargM) (base : Nat) (hbase : base ≤ w1.heap.size) (hgb : Blk w1 gB 26 #[.string g.name, .slice g.cA g.cats.length g.cC, .string g.start, .int .i64 g.startNo, .slice g.eA g.entries.length g.eC, .slice g.rA g.rules.length g.rC])
  (hib : Blk w1 iB 46 #[.slice iA items.length iC]) (htb : Blk w1 tB 52 #[.int .i64 h.rule, .int .i64 h.item, .int .i64 h.from_, .int .i64 h.until_, .slice h.kA h.kids.length h.kC]) (hW : WalkOne gB iB g iA iC items w1 h L base) (hL : L.length ≤ 1000000) :
  Calls Tryz.prog 24 #[.func (.func 51) #[] #[.pointer (some ⟨iB, 0, none⟩), .pointer (some ⟨gB, 0, none⟩), .pointer (some ⟨tB, 0, none⟩)]] w1 fun e w' => ∃ (v : Value) (hs : List TargH), e = .returned v ∧ OwnL targC 3 42 w' base v hs ∧ hs.map TargH.m = L ∧ (∀ x ∈ hs, okTg base (fun _ => False) w' x) ∧ (∀ gg, v.ownBlock = some gg → w1.heap.size ≤ gg) ∧ Below w1.heap.size w1 w' := by
 refine (collect24 51 _ e51 L.length (fun k h => L[k]? = some h.m) (okTg base) base (okTg_ok base) (fun _ => False) (fun b => b < w1.heap.size) w1 (words51 tB h L hgb hib htb hW) (fun b hb => by
  rcases hb with h | h
  ·exact h.elim
  ·exact h) hbase hL).mono ?_
 rintro e w' ⟨hk, u, hs, O, rfl, h1, h2, h3⟩
 rw [List.nil_append] at h1
 refine ⟨u, hs, rfl, h1, ?_, fun x hx => (h2.ok x hx).mono (fun b h => h.elim), fun gg hgg => ?_, hk.toBelow (Nat.le_refl _) (fun x h => h.elim)⟩
 ·refine List.ext_getElem? fun j => ?_
  rw [List.getElem?_map]
  cases hj : hs[j]? with
  | none =>
   have : L.length ≤ j := by rw [← h2.len]; exact List.getElem?_eq_none_iff.1 hj
   rw [List.getElem?_eq_none_iff.2 this]; rfl
  | some x => exact (h2.at_ j x hj).symm
 ·rcases h3 gg hgg with h | h
  ·simp [Value.ownBlock] at h
  ·exact h
end Go.Proofs.YtkfdafeonhnloaaGreatDoor
