/-
  chart.find: the walk.
  chart.find: every goal.
-/
import Derived.Test.YtkfdafeonhnloaaGreatDoorD12
namespace Go.Mine.C
open Go.RowKit Go.Mine
theorem at_post {Q : Exit → Act → World → Prop} {a : Act} {w0 : World} (S : World → Prop) (h0 : S w0) (h : ∀ w3, S w3 → Q .normal a w3) : Q .normal a w0 := h w0 h0
def stF (items : List ItemM) (rules : List RuleM) (has : Int → Str → Bool) (F : Int → Int → Int → Found) (cat f u : Int) : Nat → Found
 | 0 => .none
 | 1 => phrasesF items cat f u .none
 | _ => rulesF rules has F cat f u (phrasesF items cat f u .none)
theorem KeptBut.low {X Y : Nat → Prop} {a b c : World} (h : KeptBut X a b) (k : KeptBut Y b c) (hY : ∀ x, Y x → X x ∨ a.heap.size ≤ x) : KeptBut X a c :=
 ⟨k.os.trans h.os, k.tape.trans h.tape, k.output.trans h.output, Nat.le_trans h.size k.size, fun x hx hX => (k.keep x (Nat.lt_of_lt_of_le hx h.size) fun hy => by
  rcases hY x hy with h1 | h1
  ·exact hX h1
  ·omega).trans (h.keep x hx hX)⟩
def setF (w : World) (b : Nat) (x : Found) (h : TreeH) : World := (((((((w.setCell ⟨b, 0, none⟩ (.bool x.ok)).setCell ⟨b, 1, none⟩ (.int .i64 x.cost)).setCell ⟨b, 2, none⟩ (.int .i64 h.rule)).setCell ⟨b, 3, none⟩ (.int .i64 h.item)).setCell ⟨b, 4, none⟩ (.int .i64 h.from_)).setCell ⟨b, 5, none⟩ (.int .i64 h.until_)).setCell ⟨b, 6, none⟩ (.slice h.kA h.kids.length h.kC)).setCell ⟨b, 7, none⟩ (.int .i64 x.many)
theorem setF_blk {w : World} {b : Nat} {v0 v1 v2 v3 v4 v5 v6 v7 : Value} (h : Blk w b 98 #[v0, v1, v2, v3, v4, v5, v6, v7]) (x : Found) (t : TreeH) : Blk (setF w b x t) b 98 (foundA x t) := by
 have h0 := h.set 0 (.bool x.ok) (cs' := #[.bool x.ok, v1, v2, v3, v4, v5, v6, v7]) rfl
 have h1 := h0.set 1 (.int .i64 x.cost) (cs' := #[.bool x.ok, .int .i64 x.cost, v2, v3, v4, v5, v6, v7]) rfl
 have h2 := h1.set 2 (.int .i64 t.rule) (cs' := #[.bool x.ok, .int .i64 x.cost, .int .i64 t.rule, v3, v4, v5, v6, v7]) rfl
 have h3 := h2.set 3 (.int .i64 t.item) (cs' := #[.bool x.ok, .int .i64 x.cost, .int .i64 t.rule, .int .i64 t.item, v4, v5, v6, v7]) rfl
 have h4 := h3.set 4 (.int .i64 t.from_) (cs' := #[.bool x.ok, .int .i64 x.cost, .int .i64 t.rule, .int .i64 t.item, .int .i64 t.from_, v5, v6, v7]) rfl
 have h5 := h4.set 5 (.int .i64 t.until_) (cs' := #[.bool x.ok, .int .i64 x.cost, .int .i64 t.rule, .int .i64 t.item, .int .i64 t.from_, .int .i64 t.until_, v6, v7]) rfl
 have h6 := h5.set 6 (.slice t.kA t.kids.length t.kC) (cs' := #[.bool x.ok, .int .i64 x.cost, .int .i64 t.rule, .int .i64 t.item, .int .i64 t.from_, .int .i64 t.until_, .slice t.kA t.kids.length t.kC, v7]) rfl
 have h7 := h6.set 7 (.int .i64 x.many) (cs' := #[.bool x.ok, .int .i64 x.cost, .int .i64 t.rule, .int .i64 t.item, .int .i64 t.from_, .int .i64 t.until_, .slice t.kA t.kids.length t.kC, .int .i64 x.many]) rfl
 exact h7
theorem setF_below {w0 w : World} {b : Nat} (h : Below w0.heap.size w0 w) (hb : w0.heap.size ≤ b) (x : Found) (t : TreeH) : Below w0.heap.size w0 (setF w b x t) :=
 (((((((h.setCell (p := ⟨b, 0, none⟩) hb _).setCell (p := ⟨b, 1, none⟩) hb _).setCell (p := ⟨b, 2, none⟩) hb _).setCell (p := ⟨b, 3, none⟩) hb _).setCell (p := ⟨b, 4, none⟩) hb _).setCell (p := ⟨b, 5, none⟩) hb _).setCell (p := ⟨b, 6, none⟩) hb _).setCell (p := ⟨b, 7, none⟩) hb _
theorem setF_kept {w : World} {b : Nat} (x : Found) (t : TreeH) : KeptBut (· = b) w (setF w b x t) :=
 ((((((((KeptBut.refl (· = b) w).set (p := ⟨b, 0, none⟩) _ (.inl rfl)).set (p := ⟨b, 1, none⟩) _ (.inl rfl)).set (p := ⟨b, 2, none⟩) _ (.inl rfl)).set (p := ⟨b, 3, none⟩) _ (.inl rfl)).set (p := ⟨b, 4, none⟩) _ (.inl rfl)).set (p := ⟨b, 5, none⟩) _ (.inl rfl)).set (p := ⟨b, 6, none⟩) _ (.inl rfl)).set (p := ⟨b, 7, none⟩) _ (.inl rfl)
structure In47 (mk gb q cb : Nat) (G : List Goal) (F : Int → Int → Int → Found) (M : Goal → Nat) (z : Goal) (X : Nat → Prop) (m0 : Goal → Option Value) (w W : World) (x : Found) : Prop where
 kb : KeptBut (· = mk) w W
 gbx : Blk W gb 103 #[.int .i64 z.1, .int .i64 z.2.1, .int .i64 z.2.2]
 rbx : Blk W (gb + 1) 98 #[.bool false, .int .i64 0, .int .i64 0, .int .i64 0, .int .i64 0, .int .i64 0, .slice none 0 0, .int .i64 0]
 fbx : Blk W (q + 1) 167 #[.func (.func 84) #[.pointer (some ⟨cb, 0, none⟩)] #[], .func (.func 85) #[.pointer (some ⟨cb, 0, none⟩)] #[]]
 size : q + 2 ≤ W.heap.size
 rl : ∃ (h : TreeH) (m : Goal → Option Value), Blk W q 98 (foundA x h) ∧ FoundR X W x h ∧ ChartSt X G F mk W m ∧ ∀ k, M z ≤ M k → m k = m0 k
end Go.Mine.C
namespace Go.Proofs.YtkfdafeonhnloaaGreatDoor
open Go.RowKit Go.Shelf Go.Mine Go.Mine.C
attribute [local go_sem] Oper.semAt_some
theorem e84 : ∀ args w, (callFunc 84 args).run Tryz.prog w = .ok (.enter 84 args) w := enters_of Tryz.func84 (by kernel_rfl) rfl
theorem e85 : ∀ args w, (callFunc 85 args).run Tryz.prog w = .ok (.enter 85 args) w := enters_of Tryz.func85 (by kernel_rfl) rfl
set_option maxRecDepth 100000 in
set_option maxHeartbeats 8000000 in
theorem find47_step (lo cb mk mw : Nat) (g : GramH) (iA : Option Addr) (iC : Nat) (items : List ItemH) (nn : Int) (ws : Int → List Str) (G : List Goal) (F : Int → Int → Int → C.Found) (M : Goal → Nat) (cat f u : Int) (hf : 0 ≤ f ∧ f < u ∧ u ≤ 16) (hcI : I64 cat) (hmem : (cat, f, u) ∈ G) (hGl : G.length ≤ 1000000)
  (hfix : F cat f u = rulesF (g.rules.map RuleH.m) (hasW ws) F cat f u (phrasesF (items.map ItemH.m) cat f u .none)) (hpl : ∀ r ∈ g.rules, r.parts.length ≤ 4)
  (hfind : ∀ r ∈ g.rules, r.catNo = cat → ∀ (pi : Nat) (p : PartM) (a m : Int), r.parts[pi]? = some p → p.isCat = true → f + (pi : Int) ≤ a → a < m → m + (r.parts.length : Int) ≤ u + (pi : Int) + 1 → M (p.catNo, a, m) < M (cat, f, u) ∧ FindSpec lo cb mk mw g iA iC items nn ws G F M (p.catNo, a, m)) :
  FindSpec lo cb mk mw g iA iC items nn ws G F M (cat, f, u) := by
 intro X w m hC hS hX
 simp only [goalV]
 have HC := hide hC
 have HS := hide hS
 have HX := hide hX
 have HPL := hide hpl
 have HFS := hide hfind
 have HFX := hide hfix
 have hmk := hC.lmk
 have hlo := hC.size
 have hcb := hC.lcb
 clear hC hS hX hpl hfind hfix
 obtain ⟨nm, cnt, hM, hn⟩ := HS.out.map
 have hlk := hM.look_ok keyG Tryz.underlying161 (Tryz.zeroValue98 _) (k := (cat, f, u)) ⟨hcI, by show I64 f; unfold I64; omega, by show I64 u; unfold I64; omega⟩
 have hkn := HS.out.known (cat, f, u)
 have HM0 := hide (show m (cat, f, u) = m (cat, f, u) from rfl)
 generalize hmz : m (cat, f, u) = mz at hlk hkn
 have HMZ := hide hmz
 clear hM hmz hn
 have HLK0 := hide hlk
 clear hlk
 go_enter Tryz.func47, Tryz.ntmps47
 (refine wp_seq_k (fun K hK => ?_); replace hK := hide hK; go_wp2_with fail; refine hK.out _ _ ?_; clear hK K)
 obtain ⟨W1, hW1⟩ : ∃ W1, W1 = (w.alloc (.cells #[.int .i64 cat, .int .i64 f, .int .i64 u] 103)).alloc (.cells #[.bool false, .int .i64 0, .int .i64 0, .int .i64 0, .int .i64 0, .int .i64 0, .slice none 0 0, .int .i64 0] 98) := ⟨_, rfl⟩
 have hb1 : Below w.heap.size w W1 := by rw [hW1]; exact kalloc (kalloc (Below.refl _ _) _) _
 have hz1 : W1.heap.size = w.heap.size + 2 := by rw [hW1]; simp
 have HG1 := hide (show Blk W1 w.heap.size 103 #[.int .i64 cat, .int .i64 f, .int .i64 u] by rw [hW1]; exact (Blk.new w _ _).alloc _)
 have HR1 := hide (show Blk W1 (w.heap.size + 1) 98 #[.bool false, .int .i64 0, .int .i64 0, .int .i64 0, .int .i64 0, .int .i64 0, .slice none 0 0, .int .i64 0] by rw [hW1]; exact Blk.new1 w _ _ _)
 have HC1 := hide (HC.out.chart.bel hb1)
 have HB1 := hide hb1
 have HZ1 := hide hz1
 rw [← hW1]
 clear hW1 hb1 hz1
 have HLK : Hid (∀ w', Below W1.heap.size W1 w' → (Instr.lookup 161 (.map (some mk)) (.agg #[.int .i64 cat, .int .i64 f, .int .i64 u]) true).run Tryz.prog w' = .ok (.tuple #[mz.getD (.agg #[.bool false, .int .i64 0, .int .i64 0, .int .i64 0, .int .i64 0, .int .i64 0, .slice none 0 0, .int .i64 0]), .bool mz.isSome]) w') := hide (fun w' hw' => by
  obtain ⟨nm, cnt, hM, _⟩ := HS.out.map
  have := ((hM.bel HB1.out).bel hw').look_ok keyG Tryz.underlying161 (Tryz.zeroValue98 _) (k := (cat, f, u)) ⟨hcI, by show I64 f; unfold I64; omega, by show I64 u; unfold I64; omega⟩
  rw [HMZ.out] at this
  exact this)
 clear HLK0 HM0
 cases mz with
 | some v =>
  obtain ⟨h, hv, hr⟩ := hkn v rfl
  simp only [Option.getD_some, Option.isSome_some] at HLK
  have HR := hide hr
  have HV := hide hv
  simp only [foundV] at hv
  subst hv
  clear hkn hr
  generalize F cat f u = sf at *
  go_wp2_with fail
  refine wp_region_held_drew (S := fun w' => Below W1.heap.size W1 w') (by kernel_rfl) (Below.refl _ _).drew (fun hHeld => ?_)
  (try simp only [Act.put, List.setIfInBounds_toArray, List.set_cons_zero, List.set_cons_succ])
  refine wpAnyH_take (i := 0) (v := ?_) rfl (by kernel_rfl) (by kernel_rfl) (by kernel_rfl) (fun _ _ _ h => h) (Or.inl ⟨by rfl, ?_⟩) (by assumption) ?_
  rotate_left
  ·intro w' hSw
   go_simp
   (try go_bits)
   try with_reducible rfl
  (try simp only [Act.put, List.setIfInBounds_toArray, List.set_cons_zero, List.set_cons_succ])
  refine wpAnyH_take (i := 1) (v := ?_) rfl (by kernel_rfl) (by kernel_rfl) (by kernel_rfl) (fun _ _ _ h => h) (Or.inl ⟨by rfl, ?_⟩) (by assumption) ?_
  rotate_left
  ·intro w' hSw
   go_simp
   (try go_bits)
   try with_reducible rfl
  (try simp only [Act.put, List.setIfInBounds_toArray, List.set_cons_zero, List.set_cons_succ])
  refine wpAnyH_take (i := 2) (v := ?_) rfl (by kernel_rfl) (by kernel_rfl) (by kernel_rfl) (fun _ _ _ h => h) (Or.inl ⟨by rfl, ?_⟩) (by assumption) ?_
  rotate_left
  ·intro w' hSw
   go_simp
   (try go_bits)
   try with_reducible rfl
  (try simp only [Act.put, List.setIfInBounds_toArray, List.set_cons_zero, List.set_cons_succ])
  refine wpAnyH_take (i := 3) (v := ?_) rfl (by kernel_rfl) (by kernel_rfl) (by kernel_rfl) (fun _ _ _ h => h) (Or.inl ⟨by rfl, ?_⟩) (by assumption) ?_
  rotate_left
  ·intro w' hSw
   have m0 := (HC1.out.bel hSw).cell (v := .map (some mk)) 8 rfl
   go_simp
   (try go_bits)
   try with_reducible rfl
  (try simp only [Act.put, List.setIfInBounds_toArray, List.set_cons_zero, List.set_cons_succ])
  refine wpAnyH_take (i := 4) (v := ?_) rfl (by kernel_rfl) (by kernel_rfl) (by kernel_rfl) (fun _ _ _ h => h) (Or.inl ⟨by rfl, ?_⟩) (by assumption) ?_
  rotate_left
  ·intro w' hSw
   have m0 := (HG1.out.bel hSw).cell (v := .int .i64 cat) 0 rfl
   have m1 := (HG1.out.bel hSw).cell (v := .int .i64 f) 1 rfl
   have m2 := (HG1.out.bel hSw).cell (v := .int .i64 u) 2 rfl
   go_simp
   (try go_bits)
   try with_reducible rfl
  (try simp only [Act.put, List.setIfInBounds_toArray, List.set_cons_zero, List.set_cons_succ])
  refine wpAnyH_take (i := 5) (v := ?_) rfl (by kernel_rfl) (by kernel_rfl) (by kernel_rfl) (fun _ _ _ h => h) (Or.inl ⟨by rfl, ?_⟩) (by assumption) ?_
  rotate_left
  ·intro w' hSw
   have m0 := HLK.out w' hSw
   go_simp
   (try go_bits)
   try with_reducible rfl
  (try simp only [Act.put, List.setIfInBounds_toArray, List.set_cons_zero, List.set_cons_succ])
  refine wpAnyH_take (i := 6) (v := ?_) rfl (by kernel_rfl) (by kernel_rfl) (by kernel_rfl) (fun _ _ _ h => h) (Or.inl ⟨by rfl, ?_⟩) (by assumption) ?_
  rotate_left
  ·intro w' hSw
   go_simp
   (try go_bits)
   try with_reducible rfl
  (try simp only [Act.put, List.setIfInBounds_toArray, List.set_cons_zero, List.set_cons_succ])
  refine wpAnyH_take (i := 7) (v := ?_) rfl (by kernel_rfl) (by kernel_rfl) (by kernel_rfl) (fun _ _ _ h => h) (Or.inl ⟨by rfl, ?_⟩) (by assumption) ?_
  rotate_left
  ·intro w' hSw
   go_simp
   (try go_bits)
   try with_reducible rfl
  (try simp only [Act.put, List.setIfInBounds_toArray, List.set_cons_zero, List.set_cons_succ])
  refine wpAnyH_take (i := 8) (v := ?_) rfl (by kernel_rfl) (by kernel_rfl) (by kernel_rfl) (fun _ _ _ h => h) (Or.inl ⟨by rfl, ?_⟩) (by assumption) ?_
  rotate_left
  ·intro w' hSw
   go_simp
   (try go_bits)
   try with_reducible rfl
  (try simp only [Act.put, List.setIfInBounds_toArray, List.set_cons_zero, List.set_cons_succ])
  refine wpAnyH_ready (rs := [9]) (by kernel_rfl) (by simp) (AllReadyH.cons rfl (fun K hK => ?_) AllReadyH.nil)
  go_simp
  refine hK.out _ _ (kalloc hHeld _) (fun hHeld2 => ?_)
  clear hK K
  (try simp only [Act.put, List.setIfInBounds_toArray, List.set_cons_zero, List.set_cons_succ])
  refine wpAnyH_ready (rs := [10]) (by kernel_rfl) (by simp) (AllReadyH.cons rfl (fun K hK => ?_) AllReadyH.nil)
  go_simp
  refine hK.out _ _ (kalloc hHeld _) (fun hHeld3 => ?_)
  clear hK K
  (try simp only [Act.put, List.setIfInBounds_toArray, List.set_cons_zero, List.set_cons_succ])
  refine wpAnyH_ready (rs := [11]) (by kernel_rfl) (by simp) (AllReadyH.cons rfl (fun K hK => ?_) AllReadyH.nil)
  go_simp
  refine hK.out _ _ (kalloc hHeld _) (fun hHeld4 => ?_)
  clear hK K
  (try simp only [Act.put, List.setIfInBounds_toArray, List.set_cons_zero, List.set_cons_succ])
  refine wpAnyH_done (by kernel_rfl) ?_ _
  refine at_post (fun W2 => Blk W2 W1.heap.size 98 (foundA sf h) ∧ Blk W2 (w.heap.size + 1) 98 #[.bool false, .int .i64 0, .int .i64 0, .int .i64 0, .int .i64 0, .int .i64 0, .slice none 0 0, .int .i64 0] ∧ Below w.heap.size w W2) ⟨(Blk.new W1 _ 98).drew, (HR1.out.alloc _).drew, (kalloc HB1.out _).drew⟩ ?_
  clear hHeld hHeld2 hHeld3 hHeld4
  rintro W2 ⟨q1, q2, q3⟩
  have HQ1 := hide q1
  have HQ2 := hide q2
  have HQ3 := hide q3
  have y0 := q1.cell (v := .bool sf.ok) 0 rfl
  have y1 := q1.cell (v := .int .i64 sf.cost) 1 rfl
  have y2 := q1.cell (v := .int .i64 h.rule) 2 rfl
  have y3 := q1.cell (v := .int .i64 h.item) 3 rfl
  have y4 := q1.cell (v := .int .i64 h.from_) 4 rfl
  have y5 := q1.cell (v := .int .i64 h.until_) 5 rfl
  have y6 := q1.cell (v := .slice h.kA h.kids.length h.kC) 6 rfl
  have y7 := q1.cell (v := .int .i64 sf.many) 7 rfl
  have yl := q1.lt
  have z0 := q2.cell (v := .bool false) 0 rfl
  have z1 := q2.cell (v := .int .i64 0) 1 rfl
  have z2 := q2.cell (v := .int .i64 0) 2 rfl
  have z3 := q2.cell (v := .int .i64 0) 3 rfl
  have z4 := q2.cell (v := .int .i64 0) 4 rfl
  have z5 := q2.cell (v := .int .i64 0) 5 rfl
  have z6 := q2.cell (v := .slice none 0 0) 6 rfl
  have z7 := q2.cell (v := .int .i64 0) 7 rfl
  have zl := q2.lt
  have zt := q2.thaw
  have hz1 := HZ1.out
  have HFB := hide (setF_blk q2 sf h)
  have HFK := hide (setF_below q3 (Nat.le_succ _) sf h)
  clear q1 q2 q3 HLK
  obtain ⟨W3, hW3⟩ : ∃ W3, setF W2 (w.heap.size + 1) sf h = W3 := ⟨_, rfl⟩
  have hW4 := hW3
  rw [hW3] at HFB HFK
  unfold setF at hW3
  have HW3 := hide hW3
  clear hW3 hW4 hz1
  go_wp2
  rw [HW3.out]
  clear y0 y1 y2 y3 y4 y5 y6 y7 z0 z1 z2 z3 z4 z5 z6 z7
  have e0 := HFB.out.cell (v := .bool sf.ok) 0 rfl
  have e1 := HFB.out.cell (v := .int .i64 sf.cost) 1 rfl
  have e2 := HFB.out.cell (v := .int .i64 h.rule) 2 rfl
  have e3 := HFB.out.cell (v := .int .i64 h.item) 3 rfl
  have e4 := HFB.out.cell (v := .int .i64 h.from_) 4 rfl
  have e5 := HFB.out.cell (v := .int .i64 h.until_) 5 rfl
  have e6 := HFB.out.cell (v := .slice h.kA h.kids.length h.kC) 6 rfl
  have e7 := HFB.out.cell (v := .int .i64 sf.many) 7 rfl
  refine bodyPost_ret (v := foundV sf h) (by simp [results, Tryz.results47, go_sem, foundV, e0, e1, e2, e3, e4, e5, e6, e7]) rfl ?_
  exact ⟨h, m, rfl, HR.out.keep (KeepT.bel HFK.out), HS.out.keep (HFK.out.block _ HS.out.lt) (KeepT.bel HFK.out), fun _ _ => rfl, .of_below HFK.out⟩
 | none =>
  simp only [Option.getD_none, Option.isSome_none] at HLK
  clear hkn
  go_wp2_with fail
  refine wp_region_held_drew (S := fun w' => Below W1.heap.size W1 w') (by kernel_rfl) (Below.refl _ _).drew (fun hHeld => ?_)
  (try simp only [Act.put, List.setIfInBounds_toArray, List.set_cons_zero, List.set_cons_succ])
  refine wpAnyH_take (i := 0) (v := ?_) rfl (by kernel_rfl) (by kernel_rfl) (by kernel_rfl) (fun _ _ _ h => h) (Or.inl ⟨by rfl, ?_⟩) (by assumption) ?_
  rotate_left
  ·intro w' hSw
   go_simp
   (try go_bits)
   try with_reducible rfl
  (try simp only [Act.put, List.setIfInBounds_toArray, List.set_cons_zero, List.set_cons_succ])
  refine wpAnyH_take (i := 1) (v := ?_) rfl (by kernel_rfl) (by kernel_rfl) (by kernel_rfl) (fun _ _ _ h => h) (Or.inl ⟨by rfl, ?_⟩) (by assumption) ?_
  rotate_left
  ·intro w' hSw
   go_simp
   (try go_bits)
   try with_reducible rfl
  (try simp only [Act.put, List.setIfInBounds_toArray, List.set_cons_zero, List.set_cons_succ])
  refine wpAnyH_take (i := 2) (v := ?_) rfl (by kernel_rfl) (by kernel_rfl) (by kernel_rfl) (fun _ _ _ h => h) (Or.inl ⟨by rfl, ?_⟩) (by assumption) ?_
  rotate_left
  ·intro w' hSw
   go_simp
   (try go_bits)
   try with_reducible rfl
  (try simp only [Act.put, List.setIfInBounds_toArray, List.set_cons_zero, List.set_cons_succ])
  refine wpAnyH_take (i := 3) (v := ?_) rfl (by kernel_rfl) (by kernel_rfl) (by kernel_rfl) (fun _ _ _ h => h) (Or.inl ⟨by rfl, ?_⟩) (by assumption) ?_
  rotate_left
  ·intro w' hSw
   have m0 := (HC1.out.bel hSw).cell (v := .map (some mk)) 8 rfl
   go_simp
   (try go_bits)
   try with_reducible rfl
  (try simp only [Act.put, List.setIfInBounds_toArray, List.set_cons_zero, List.set_cons_succ])
  refine wpAnyH_take (i := 4) (v := ?_) rfl (by kernel_rfl) (by kernel_rfl) (by kernel_rfl) (fun _ _ _ h => h) (Or.inl ⟨by rfl, ?_⟩) (by assumption) ?_
  rotate_left
  ·intro w' hSw
   have m0 := (HG1.out.bel hSw).cell (v := .int .i64 cat) 0 rfl
   have m1 := (HG1.out.bel hSw).cell (v := .int .i64 f) 1 rfl
   have m2 := (HG1.out.bel hSw).cell (v := .int .i64 u) 2 rfl
   go_simp
   (try go_bits)
   try with_reducible rfl
  (try simp only [Act.put, List.setIfInBounds_toArray, List.set_cons_zero, List.set_cons_succ])
  refine wpAnyH_take (i := 5) (v := ?_) rfl (by kernel_rfl) (by kernel_rfl) (by kernel_rfl) (fun _ _ _ h => h) (Or.inl ⟨by rfl, ?_⟩) (by assumption) ?_
  rotate_left
  ·intro w' hSw
   have m0 := HLK.out w' hSw
   go_simp
   (try go_bits)
   try with_reducible rfl
  (try simp only [Act.put, List.setIfInBounds_toArray, List.set_cons_zero, List.set_cons_succ])
  refine wpAnyH_take (i := 6) (v := ?_) rfl (by kernel_rfl) (by kernel_rfl) (by kernel_rfl) (fun _ _ _ h => h) (Or.inl ⟨by rfl, ?_⟩) (by assumption) ?_
  rotate_left
  ·intro w' hSw
   go_simp
   (try go_bits)
   try with_reducible rfl
  (try simp only [Act.put, List.setIfInBounds_toArray, List.set_cons_zero, List.set_cons_succ])
  refine wpAnyH_take (i := 7) (v := ?_) rfl (by kernel_rfl) (by kernel_rfl) (by kernel_rfl) (fun _ _ _ h => h) (Or.inl ⟨by rfl, ?_⟩) (by assumption) ?_
  rotate_left
  ·intro w' hSw
   go_simp
   (try go_bits)
   try with_reducible rfl
  (try simp only [Act.put, List.setIfInBounds_toArray, List.set_cons_zero, List.set_cons_succ])
  refine wpAnyH_take (i := 8) (v := ?_) rfl (by kernel_rfl) (by kernel_rfl) (by kernel_rfl) (fun _ _ _ h => h) (Or.inl ⟨by rfl, ?_⟩) (by assumption) ?_
  rotate_left
  ·intro w' hSw
   go_simp
   (try go_bits)
   try with_reducible rfl
  (try simp only [Act.put, List.setIfInBounds_toArray, List.set_cons_zero, List.set_cons_succ])
  refine wpAnyH_ready (rs := [9]) (by kernel_rfl) (by simp) (AllReadyH.cons rfl (fun K hK => ?_) AllReadyH.nil)
  go_simp
  refine hK.out _ _ (kalloc hHeld _) (fun hHeld2 => ?_)
  clear hK K
  (try simp only [Act.put, List.setIfInBounds_toArray, List.set_cons_zero, List.set_cons_succ])
  refine wpAnyH_ready (rs := [10]) (by kernel_rfl) (by simp) (AllReadyH.cons rfl (fun K hK => ?_) AllReadyH.nil)
  go_simp
  refine hK.out _ _ (kalloc hHeld _) (fun hHeld3 => ?_)
  clear hK K
  (try simp only [Act.put, List.setIfInBounds_toArray, List.set_cons_zero, List.set_cons_succ])
  refine wpAnyH_ready (rs := [11]) (by kernel_rfl) (by simp) (AllReadyH.cons rfl (fun K hK => ?_) AllReadyH.nil)
  go_simp
  refine hK.out _ _ (kalloc hHeld _) (fun hHeld4 => ?_)
  clear hK K
  (try simp only [Act.put, List.setIfInBounds_toArray, List.set_cons_zero, List.set_cons_succ])
  refine wpAnyH_done (by kernel_rfl) ?_ _
  refine at_post (fun W2 => Blk W2 (w.heap.size + 1) 98 #[.bool false, .int .i64 0, .int .i64 0, .int .i64 0, .int .i64 0, .int .i64 0, .slice none 0 0, .int .i64 0] ∧ Blk W2 w.heap.size 103 #[.int .i64 cat, .int .i64 f, .int .i64 u] ∧ Below w.heap.size w W2 ∧ w.heap.size + 3 ≤ W2.heap.size) ⟨(HR1.out.alloc _).drew, (HG1.out.alloc _).drew, (kalloc HB1.out _).drew, by have h : (W1.alloc (.cells #[.bool false, .int .i64 0, .int .i64 0, .int .i64 0, .int .i64 0, .int .i64 0, .slice none 0 0, .int .i64 0] 98)).heap.size = W1.heap.size + 1 := World.size_alloc W1 _; have := HZ1.out; show w.heap.size + 3 ≤ (W1.alloc (.cells #[.bool false, .int .i64 0, .int .i64 0, .int .i64 0, .int .i64 0, .int .i64 0, .slice none 0 0, .int .i64 0] 98)).heap.size; omega⟩ ?_
  clear hHeld hHeld2 hHeld3 hHeld4 HLK HR1 HG1 HC1 HB1 HZ1
  rintro W2 ⟨q1, q2, q3, hz2⟩
  have HQ1 := hide q1
  have HQ2 := hide q2
  have HQ3 := hide q3
  clear q1 q2 q3
  obtain ⟨W3, hW3⟩ : ∃ W3, W3 = (W2.alloc (.cells #[.bool false, .int .i64 0, .int .i64 0, .int .i64 0, .int .i64 0, .int .i64 0, .slice none 0 0, .int .i64 0] 98)).alloc (.cells #[.func (.func 84) #[.pointer (some ⟨cb, 0, none⟩)] #[], .func (.func 85) #[.pointer (some ⟨cb, 0, none⟩)] #[]] 167) := ⟨_, rfl⟩
  have hb3 : Below W2.heap.size W2 W3 := by rw [hW3]; exact kalloc (kalloc (Below.refl _ _) _) _
  have HQF := hide (show Blk W3 W2.heap.size 98 (foundA C.Found.none zeroT) by rw [hW3]; exact (Blk.new W2 _ _).alloc _)
  have HFN := hide (show Blk W3 (W2.heap.size + 1) 167 #[.func (.func 84) #[.pointer (some ⟨cb, 0, none⟩)] #[], .func (.func 85) #[.pointer (some ⟨cb, 0, none⟩)] #[]] by rw [hW3]; exact Blk.new1 W2 _ _ _)
  have HB3 := hide (kcall HQ3.out hb3)
  have hz3 : W3.heap.size = W2.heap.size + 2 := by rw [hW3]; simp
  have hw2 := HQ3.out.size
  have HI0 : Hid (In47 mk (w.heap.size) W2.heap.size cb G F M (cat, f, u) X m w W3 (stF (items.map ItemH.m) (g.rules.map RuleH.m) (hasW ws) F cat f u 0)) := hide
   ⟨.of_below HB3.out, HQ2.out.bel hb3, HQ1.out.bel hb3, HFN.out, by omega, C.zeroT, m, HQF.out, ⟨fun e => Bool.noConfusion (show false = true from e), fun _ => rfl⟩, HS.out.keep (HB3.out.block _ HS.out.lt) (KeepT.bel HB3.out), fun _ _ => rfl⟩
  clear HQ1 HQ2 HQ3 HQF HFN HB3 hb3 hz3
  have eg1 := e84
  have eg2 := e85
  go_wp2
  rw [← hW3]
  clear hW3
  go_loopw [27] (fun iv wr => ∃ kq : Nat, kq ≤ 2 ∧ iv = .int .i64 kq ∧ Hid (In47 mk (w.heap.size) W2.heap.size cb G F M (cat, f, u) X m w wr (stF (items.map ItemH.m) (g.rules.map RuleH.m) (hasW ws) F cat f u kq))) (fun iv _ => 2 - (nI iv).toNat)
  case atStart => exact ⟨0, by omega, rfl, HI0⟩
  case round =>
   clear HI0
   obtain ⟨kq, hkq, rfl, HI⟩ := hrel
   obtain ⟨i1, i2, i3, i4, i5, h5, m5, i6, i7, i8, i9⟩ := HI.out
   have hfx := HC.out.but i1 (fun b hb => .inl hb)
   have g0 := i2.cell (v := .int .i64 cat) 0 rfl
   have g1 := i2.cell (v := .int .i64 f) 1 rfl
   have g2 := i2.cell (v := .int .i64 u) 2 rfl
   have gl := i2.lt
   have hmkw := hmk
   match kq, hkq with
   | 0, _ =>
    have K := phrases84 cb W2.heap.size g iA iC items nn mk mw cat f u X _ h5 wr hfx.chart hfx.its (fun a ha hn e => by have := (hfx.lits a ha hn).1; omega) i6 i7
    simp only [goalV] at K
    replace K := hide K
    have f0 := i4.cell (v := .func (.func 84) #[.pointer (some ⟨cb, 0, none⟩)] #[]) 0 rfl
    have fl := i4.lt
    have HI2 := HI
    clear hfx HI
    have I1 := hide i1
    have I2 := hide i2
    have I3 := hide i3
    have I4 := hide i4
    have I5 := hide i5
    have I6 := hide i6
    have I8 := hide i8
    have I9 := hide i9
    clear i1 i2 i3 i4 i6 i7 i8 i9
    go_wp2_with fail
    refine K.out.mono ?_
    rintro e w4 ⟨rfl, hk4, h6, hq6, hr6⟩
    have HN : Hid (In47 mk (w.heap.size) W2.heap.size cb G F M (cat, f, u) X m w w4 (stF (items.map ItemH.m) (g.rules.map RuleH.m) (hasW ws) F cat f u 1)) := hide
     ⟨KeptBut.low I1.out hk4 (fun x hx => .inr (by omega)), Blk.but I2.out hk4 (by omega), Blk.but I3.out hk4 (by omega), Blk.but I4.out hk4 (by omega), Nat.le_trans I5.out hk4.size, h6, m5, hq6, hr6, I8.out.keep (hk4.keep mk I8.out.lt (by omega)) (KeepT.ofBlk I6.out (by decide) hk4), I9.out⟩
    clear hk4 hq6 hr6 K I1 I2 I3 I4 I5 I6 I8 I9 HI2 g0 g1 g2 gl f0 fl
    go_wp2
    go_roundw
    case rel => exact ⟨1, by omega, by go_num, HN⟩
    case measure => simp [nI]
   | 1, _ =>
    have K := rules85 lo cb mk mw W2.heap.size g iA iC items nn ws G F M cat f u hf X _ h5 m5 wr hfx i8 (fun b hb => Nat.lt_of_lt_of_le (HX.out b hb) i1.size) i6 (by omega) i7 HPL.out HFS.out
    simp only [goalV] at K
    replace K := hide K
    have f1 := i4.cell (v := .func (.func 85) #[.pointer (some ⟨cb, 0, none⟩)] #[]) 1 rfl
    have fl := i4.lt
    have HI2 := HI
    clear hfx HI
    have I1 := hide i1
    have I2 := hide i2
    have I3 := hide i3
    have I4 := hide i4
    have I5 := hide i5
    have I6 := hide i6
    have I8 := hide i8
    have I9 := hide i9
    clear i1 i2 i3 i4 i6 i7 i8 i9
    go_wp2_with fail
    refine K.out.mono ?_
    rintro e w4 ⟨rfl, hk4, h6, m6, hq6, hr6, hs6, hm6⟩
    have HN : Hid (In47 mk (w.heap.size) W2.heap.size cb G F M (cat, f, u) X m w w4 (stF (items.map ItemH.m) (g.rules.map RuleH.m) (hasW ws) F cat f u 2)) := hide
     ⟨KeptBut.low I1.out hk4 (fun x hx => by rcases hx with h | h; exact .inl h; exact .inr (by omega)), Blk.but I2.out hk4 (by omega), Blk.but I3.out hk4 (by omega), Blk.but I4.out hk4 (by omega), Nat.le_trans I5.out hk4.size, h6, m6, hq6, hr6, hs6, fun kz hkz => (hm6 kz hkz).trans (I9.out kz hkz)⟩
    clear hk4 hq6 hr6 hs6 hm6 K I1 I2 I3 I4 I5 I6 I8 I9 HI2 g0 g1 g2 gl f1 fl
    go_wp2
    go_roundw
    case rel => exact ⟨2, by omega, by go_num, HN⟩
    case measure => simp [nI]
   | 2, _ =>
    have hst : stF (items.map ItemH.m) (g.rules.map RuleH.m) (hasW ws) F cat f u 2 = F cat f u := HFX.out.symm
    rw [hst] at i6 i7
    have HFR := hide i7
    obtain ⟨nm, cnt, hM, hn⟩ := i8.map
    have hmz : m5 (cat, f, u) = none := (i9 _ (Nat.le_refl _)).trans HMZ.out
    have hcmk : ¬ (cb = mk) := hcb.2
    have hgmk : ¬ (w.heap.size = mk) := by omega
    have hqmk : ¬ (W2.heap.size = mk) := by omega
    obtain ⟨w6, e6, hM6, hg6⟩ := (hM.bel (Below.refl _ _).drew).put keyG Tryz.underlying161 (by have := knownN_le G m5; unfold maxLen; omega) (k := (cat, f, u)) ⟨hcI, by show I64 f; unfold I64; omega, by show I64 u; unfold I64; omega⟩ (foundV (F cat f u) h5)
    have HK6 : Hid (KeptBut (· = mk) wr w6) := hide ((KeptBut.refl (· = mk) wr).drew.grown hg6 (fun g hg => by cases hg; exact .inl rfl))
    have hkt6 : KeepT X wr w6 := KeepT.but HK6.out fun b hb => .inr fun cs fz e => by
     obtain rfl : b = mk := hb
     exact i8.notcells cs 52 fz e
    have HS6 : Hid (ChartSt X G F mk w6 (updG m5 (cat, f, u) (foundV (F cat f u) h5))) := hide ⟨⟨_, _, hM6, by
      have := knownN_put (G := G) (m := m5) (m' := updG m5 (cat, f, u) (foundV (F cat f u) h5)) hmem hmz (by simp [updG]) (fun j hj => by simp [updG, hj])
      omega⟩, fun kz v hv => by
     unfold updG at hv
     by_cases e : kz = (cat, f, u)
     ·rw [if_pos e] at hv
      cases hv
      subst e
      exact ⟨h5, rfl, HFR.out.keep hkt6⟩
     ·rw [if_neg e] at hv
      obtain ⟨h7, e7, r7⟩ := i8.known kz v hv
      exact ⟨h7, e7, r7.keep hkt6⟩⟩
    have HM6 : Hid (∀ k, M (cat, f, u) < M k → updG m5 (cat, f, u) (foundV (F cat f u) h5) k = m k) := hide (fun k hk => by
     have hne : k ≠ (cat, f, u) := by rintro rfl; omega
     rw [show updG m5 (cat, f, u) (foundV (F cat f u) h5) k = m5 k by simp [updG, hne]]
     exact i9 k (Nat.le_of_lt hk))
    have HFR6 := hide (HFR.out.keep hkt6)
    have HC5 := hide hfx.chart
    have HG5 := hide i2
    have HQ5 := hide i6
    have HRB := hide (Blk.but i3 HK6.out (by omega))
    have HQ6 := hide (Blk.but i6 HK6.out hqmk)
    have HK0 := hide (i1.trans HK6.out)
    simp only [goalV, foundV] at e6
    have hz5 := i5
    generalize hfxx : updG m5 (cat, f, u) (foundV (F cat f u) h5) = mF at HS6 HM6
    generalize hFX : F cat f u = fx at *
    have HFXX := hide hFX
    clear hFX
    clear hM hM6 hg6 hkt6 i1 i2 i3 i4 i6 i7 i8 i9 HI hfx hst g0 g1 g2 gl hfxx
    go_wp2_with fail
    refine wp_region_held_drew (S := fun w' => KeptBut (· = mk) wr w') (by kernel_rfl) (KeptBut.refl _ _).drew (fun hHeld => ?_)
    (try simp only [Act.put, List.setIfInBounds_toArray, List.set_cons_zero, List.set_cons_succ])
    refine wpAnyH_take (i := 0) (v := ?_) rfl (by kernel_rfl) (by kernel_rfl) (by kernel_rfl) (fun _ _ _ h => h) (Or.inl ⟨by rfl, ?_⟩) (by assumption) ?_
    rotate_left
    ·intro w' hSw
     go_simp
     (try go_bits)
     try with_reducible rfl
    (try simp only [Act.put, List.setIfInBounds_toArray, List.set_cons_zero, List.set_cons_succ])
    refine wpAnyH_take (i := 1) (v := ?_) rfl (by kernel_rfl) (by kernel_rfl) (by kernel_rfl) (fun _ _ _ h => h) (Or.inl ⟨by rfl, ?_⟩) (by assumption) ?_
    rotate_left
    ·intro w' hSw
     go_simp
     (try go_bits)
     try with_reducible rfl
    (try simp only [Act.put, List.setIfInBounds_toArray, List.set_cons_zero, List.set_cons_succ])
    refine wpAnyH_take (i := 2) (v := ?_) rfl (by kernel_rfl) (by kernel_rfl) (by kernel_rfl) (fun _ _ _ h => h) (Or.inl ⟨by rfl, ?_⟩) (by assumption) ?_
    rotate_left
    ·intro w' hSw
     go_simp
     (try go_bits)
     try with_reducible rfl
    (try simp only [Act.put, List.setIfInBounds_toArray, List.set_cons_zero, List.set_cons_succ])
    refine wpAnyH_take (i := 3) (v := ?_) rfl (by kernel_rfl) (by kernel_rfl) (by kernel_rfl) (fun _ _ _ h => h) (Or.inl ⟨by rfl, ?_⟩) (by assumption) ?_
    rotate_left
    ·intro w' hSw
     have m0 := (Blk.but HC5.out hSw hcmk).cell (v := .map (some mk)) 8 rfl
     go_simp
     (try go_bits)
     try with_reducible rfl
    (try simp only [Act.put, List.setIfInBounds_toArray, List.set_cons_zero, List.set_cons_succ])
    refine wpAnyH_take (i := 4) (v := ?_) rfl (by kernel_rfl) (by kernel_rfl) (by kernel_rfl) (fun _ _ _ h => h) (Or.inl ⟨by rfl, ?_⟩) (by assumption) ?_
    rotate_left
    ·intro w' hSw
     have m0 := (Blk.but HG5.out hSw hgmk).cell (v := .int .i64 cat) 0 rfl
     have m1 := (Blk.but HG5.out hSw hgmk).cell (v := .int .i64 f) 1 rfl
     have m2 := (Blk.but HG5.out hSw hgmk).cell (v := .int .i64 u) 2 rfl
     go_simp
     (try go_bits)
     try with_reducible rfl
    (try simp only [Act.put, List.setIfInBounds_toArray, List.set_cons_zero, List.set_cons_succ])
    refine wpAnyH_take (i := 5) (v := ?_) rfl (by kernel_rfl) (by kernel_rfl) (by kernel_rfl) (fun _ _ _ h => h) (Or.inl ⟨by rfl, ?_⟩) (by assumption) ?_
    rotate_left
    ·intro w' hSw
     have m0 := (Blk.but HQ5.out hSw hqmk).cell (v := (.bool fx.ok)) 0 rfl
     have m1 := (Blk.but HQ5.out hSw hqmk).cell (v := (.int .i64 fx.cost)) 1 rfl
     have m2 := (Blk.but HQ5.out hSw hqmk).cell (v := (.int .i64 h5.rule)) 2 rfl
     have m3 := (Blk.but HQ5.out hSw hqmk).cell (v := (.int .i64 h5.item)) 3 rfl
     have m4 := (Blk.but HQ5.out hSw hqmk).cell (v := (.int .i64 h5.from_)) 4 rfl
     have m5 := (Blk.but HQ5.out hSw hqmk).cell (v := (.int .i64 h5.until_)) 5 rfl
     have m6 := (Blk.but HQ5.out hSw hqmk).cell (v := (.slice h5.kA h5.kids.length h5.kC)) 6 rfl
     have m7 := (Blk.but HQ5.out hSw hqmk).cell (v := (.int .i64 fx.many)) 7 rfl
     go_simp
     (try go_bits)
     try with_reducible rfl
    (try simp only [Act.put, List.setIfInBounds_toArray, List.set_cons_zero, List.set_cons_succ])
    refine wpAnyH_ready (rs := [6]) (by kernel_rfl) (by simp) (AllReadyH.cons rfl (fun K hK => ?_) AllReadyH.nil)
    go_simp
    refine hK.out _ _ HK6.out (fun hHeld2 => ?_)
    clear hK K
    (try simp only [Act.put, List.setIfInBounds_toArray, List.set_cons_zero, List.set_cons_succ])
    refine wpAnyH_done (by kernel_rfl) ?_ _
    clear e6 hHeld hHeld2
    have y0 := HQ6.out.cell (v := (.bool fx.ok)) 0 rfl
    have y1 := HQ6.out.cell (v := (.int .i64 fx.cost)) 1 rfl
    have y2 := HQ6.out.cell (v := (.int .i64 h5.rule)) 2 rfl
    have y3 := HQ6.out.cell (v := (.int .i64 h5.item)) 3 rfl
    have y4 := HQ6.out.cell (v := (.int .i64 h5.from_)) 4 rfl
    have y5 := HQ6.out.cell (v := (.int .i64 h5.until_)) 5 rfl
    have y6 := HQ6.out.cell (v := (.slice h5.kA h5.kids.length h5.kC)) 6 rfl
    have y7 := HQ6.out.cell (v := (.int .i64 fx.many)) 7 rfl
    have yl := HQ6.out.lt
    have z0 := HRB.out.cell (v := (.bool false)) 0 rfl
    have z1 := HRB.out.cell (v := (.int .i64 0)) 1 rfl
    have z2 := HRB.out.cell (v := (.int .i64 0)) 2 rfl
    have z3 := HRB.out.cell (v := (.int .i64 0)) 3 rfl
    have z4 := HRB.out.cell (v := (.int .i64 0)) 4 rfl
    have z5 := HRB.out.cell (v := (.int .i64 0)) 5 rfl
    have z6 := HRB.out.cell (v := (.slice none 0 0)) 6 rfl
    have z7 := HRB.out.cell (v := (.int .i64 0)) 7 rfl
    have zl := HRB.out.lt
    have zt := HRB.out.thaw
    have HFB := hide (setF_blk HRB.out fx h5)
    have HFK := hide (setF_kept (w := w6) (b := w.heap.size + 1) fx h5)
    obtain ⟨W8, hW8⟩ : ∃ W8, setF w6 (w.heap.size + 1) fx h5 = W8 := ⟨_, rfl⟩
    have hW9 := hW8
    rw [hW8] at HFB HFK
    unfold setF at hW8
    have HW8 := hide hW8
    have hkt : KeepT X w6 W8 := KeepT.ofBlk HRB.out (by decide) HFK.out
    have HFR8 := hide (HFR6.out.keep hkt)
    have HS8 := hide (HS6.out.keep (HFK.out.keep mk HS6.out.lt (by omega)) hkt)
    have HK8 := hide (KeptBut.low HK0.out HFK.out (fun x hx => .inr (by omega)))
    clear hW8 hW9 hkt
    go_wp2
    rw [HW8.out]
    clear y0 y1 y2 y3 y4 y5 y6 y7 z0 z1 z2 z3 z4 z5 z6 z7
    have e0 := HFB.out.cell (v := (.bool fx.ok)) 0 rfl
    have e1 := HFB.out.cell (v := (.int .i64 fx.cost)) 1 rfl
    have e2 := HFB.out.cell (v := (.int .i64 h5.rule)) 2 rfl
    have e3 := HFB.out.cell (v := (.int .i64 h5.item)) 3 rfl
    have e4 := HFB.out.cell (v := (.int .i64 h5.from_)) 4 rfl
    have e5 := HFB.out.cell (v := (.int .i64 h5.until_)) 5 rfl
    have e6 := HFB.out.cell (v := (.slice h5.kA h5.kids.length h5.kC)) 6 rfl
    have e7 := HFB.out.cell (v := (.int .i64 fx.many)) 7 rfl
    refine bodyPost_ret (v := foundV fx h5) (by simp [results, Tryz.results47, go_sem, foundV, e0, e1, e2, e3, e4, e5, e6, e7]) rfl ?_
    have hlast := HFXX.out
    subst hlast
    exact ⟨h5, mF, rfl, HFR8.out, HS8.out, HM6.out, HK8.out⟩
end Go.Proofs.YtkfdafeonhnloaaGreatDoor
namespace Go.Proofs.YtkfdafeonhnloaaGreatDoor
open Go.RowKit Go.Shelf Go.Mine Go.Mine.C
theorem find47 (lo cb mk mw : Nat) (g : GramH) (iA : Option Addr) (iC : Nat) (items : List ItemH) (nn : Int) (ws : Int → List Str) (K : Nat) (rk : Int → Nat) (hR : RankP (g.rules.map RuleH.m) K rk) (D : Nat) (hpl : ∀ r ∈ g.rules, r.parts.length ≤ 4) (hcI : ∀ r ∈ g.rules, ∀ p ∈ r.parts, I64 p.catNo)
  (hGl : (goalsL g.startNo (g.rules.map RuleH.m) 16).length ≤ 1000000) : ∀ (N : Nat) (cat f u : Int), meas K rk cat f u < N → meas K rk cat f u < D → (cat, f, u) ∈ goalsL g.startNo (g.rules.map RuleH.m) 16 → I64 cat → 0 ≤ f → f < u → u ≤ 16 →
   FindSpec lo cb mk mw g iA iC items nn ws (goalsL g.startNo (g.rules.map RuleH.m) 16) (findF (g.rules.map RuleH.m) (items.map ItemH.m) (hasW ws) D) (fun z => meas K rk z.1 z.2.1 z.2.2) (cat, f, u)
 | 0, _, _, _, h, _, _, _, _, _, _ => absurd h (Nat.not_lt_zero _)
 | N + 1, cat, f, u, hN, hD, hm, hI, h0, hfu, hu => by
  refine find47_step lo cb mk mw g iA iC items nn ws _ _ _ cat f u ⟨h0, hfu, hu⟩ hI hm hGl (find_fix hR hD) hpl fun r hr hc pi p a m hp hpc h1 h2 h3 => ?_
  have hlt : pi < r.parts.length := (List.getElem?_eq_some_iff.1 hp).1
  have hpm : p ∈ r.parts := List.mem_of_getElem? hp
  have hrm : r.m ∈ g.rules.map RuleH.m := List.mem_map.2 ⟨r, hr, rfl⟩
  have hms := meas_sub hR hrm (cat := cat) (f := f) (u := u) (a := a) (m := m) hc hp hpc h1 h2 h3
  exact ⟨hms, find47 lo cb mk mw g iA iC items nn ws K rk hR D hpl hcI hGl N p.catNo a m (by omega) (by omega) (goals_mem (.inr ⟨r.m, hrm, p, hpm, rfl⟩) (by omega) (by omega)) (hcI r hr p hpm) (by omega) h2 (by omega)⟩
end Go.Proofs.YtkfdafeonhnloaaGreatDoor
