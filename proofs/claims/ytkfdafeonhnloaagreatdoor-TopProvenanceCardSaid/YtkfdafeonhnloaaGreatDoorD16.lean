/-
 chart.Best: the walk.
-/
import Derived.Test.YtkfdafeonhnloaaGreatDoorD15
import Derived.Defers
import Derived.Recover
namespace Go.Mine.C
open Go.RowKit Go.Mine
theorem In46.fix {mk mw cb : Nat} {g : GramH} {iA : Option Addr} {iC : Nat} {items : List ItemH} {words : List Str} {w W : World} (h : In46 mk mw cb g iA items.length iC words.length words words.length w W) (hG : GramOk w g) (hI : Sl itemC 6 w iA iC items) :
  ChartFix W.heap.size cb mk mw g iA iC items words.length (wsTo words words.length) W := by
 have l1 := h.low.1
 have l2 := h.low.2.1
 have l3 := h.low.2.2.1
 have l4 := h.low.2.2.2
 have lowSl : ∀ {α : Type} {f : α → List Value} {sz : Nat} {A : Option Addr} {c : Nat} {l : List α}, Sl f sz w A c l → ∀ a, A = some a → l ≠ [] → a.block < W.heap.size ∧ a.block ≠ mk := fun hs a ha hn => by
  obtain ⟨b, off, e, hb, _⟩ := hs.cells hn
  rw [ha] at e
  cases e
  dsimp only
  omega
 refine ⟨h.chart, hG.rules.bel h.bel, fun r hr => (hG.rule r hr).parts.bel h.bel, hI.bel h.bel, ⟨?_, ⟨by omega, by omega⟩⟩, ⟨l4, by omega⟩, lowSl hG.rules, fun r hr => lowSl (hG.rule r hr).parts, lowSl hI, by omega, Nat.le_refl _⟩
 obtain ⟨n, m, h1, h2, h3⟩ := h.words_
 refine ⟨n, m, h2, fun i => ?_⟩
 obtain ⟨e0, A, c, e1, e2, e3⟩ := h3 i
 refine ⟨A, c, e1, e2, fun a ha hn => ⟨?_, e3 a ha hn⟩⟩
 obtain ⟨b, off, e, hb, _⟩ := e2.cells hn
 rw [ha] at e
 cases e
 exact hb
theorem bel_of {w W : World} (h : Below w.heap.size w W) : Below w.heap.size w W := h
theorem below_but {w0 a b : World} {mk : Nat} (h : Below w0.heap.size w0 a) (k : KeptBut (· = mk) a b) (hm : w0.heap.size ≤ mk) : Below w0.heap.size w0 b :=
 h.trans (k.toBelow (B := w0.heap.size) h.size (fun x hx => by
  obtain rfl : x = mk := hx
  exact hm))
end Go.Mine.C
namespace Go.Proofs.YtkfdafeonhnloaaGreatDoor
open Go.RowKit Go.Shelf Go.Mine Go.Mine.C
attribute [local go_sem] Oper.semAt_some
theorem ignore45 (q : Nat) (w : World) : CallsD Tryz.prog 45 #[.pointer (some ⟨q, 0, none⟩)] .returning w fun e u' w' => e = .returned (.tuple #[]) ∧ u' = .returning ∧ w' = w := by
 refine callsD_of_wpS Tryz.func45 rfl fun c₀ cs hu => ?_
 apply wpS_seq
 apply wpS_region
 simp [wpOpsS, go_sem, recoverD, hu, Tryz.ntmps45, Exit.thenS]
 apply wpS_seq
 apply wpS_region
 simp [wpOpsS, go_sem, Exit.thenS]
 refine wpS_cond (t := false) (by simp [Act.eval, Array.replicate]) ?_
 simp only [Bool.false_eq_true, if_false]
 refine wpS_of_wp (wp_skip ?_)
 cases c₀
 simp_all [bodyPostS, results, Tryz.results45]
set_option maxRecDepth 100000 in
set_option maxHeartbeats 8000000 in
theorem best15 (g : GramH) (iA : Option Addr) (iC : Nat) (items : List ItemH) (words : List ByteArray) (w : World) (hG : GramOk w g) (hgs : GramS g) (hok : okB g = true) (hI : Sl itemC 6 w iA iC items) (hit : ItemsOk g.cats.length words w items) (hE : Env w) (hn : 1 ≤ words.length ∧ words.length ≤ 16) (hil : items.length ≤ 16384)
  (K : Nat) (rk : Int → Nat) (hR : RankP (g.rules.map RuleH.m) K rk) (D : Nat) (hD : 17 * K ≤ D) (hpl : ∀ r ∈ g.rules, r.parts.length ≤ 4) (hcI : ∀ r ∈ g.rules, ∀ p ∈ r.parts, I64 p.catNo) (hsI : I64 g.startNo) (hGl : (goalsL g.startNo (g.rules.map RuleH.m) 16).length ≤ 1000000) :
  Calls Tryz.prog 15 #[gramV g, .slice iA items.length iC, .int .i64 words.length] w fun e w' => ∃ h, e = .returned (.tuple #[treeV h, .int .i64 (findF (g.rules.map RuleH.m) (items.map ItemH.m) (hasW (wsTo words words.length)) D g.startNo 0 words.length).cost, .bool (findF (g.rules.map RuleH.m) (items.map ItemH.m) (hasW (wsTo words words.length)) D g.startNo 0 words.length).ok, .int .i64 0]) ∧
   FoundR (fun _ => False) w' (findF (g.rules.map RuleH.m) (items.map ItemH.m) (hasW (wsTo words words.length)) D g.startNo 0 words.length) h ∧ Below w.heap.size w w' := by
 simp only [gramV]
 have hmeas : meas K rk g.startNo 0 words.length < D := by
  unfold meas
  have := hR.lt g.startNo
  have h1 : ((words.length : Int) - 0).toNat * K ≤ 16 * K := Nat.mul_le_mul_right _ (by omega)
  omega
 have HFND := hide (fun (lo cb mk mw : Nat) => find47 lo cb mk mw g iA iC items words.length (wsTo words words.length) K rk hR D hpl hcI hGl (D + 1) g.startNo 0 words.length (by omega) hmeas (goals_mem (.inl rfl) (by omega) (by omega)) hsI (Int.le_refl _) (by omega) (by omega))
 have HKB := hide (fun (W : World) (hb : Below w.heap.size w W) => begin46 g iA iC items words W (hG.bel hb) hgs hok (hI.bel hb) ⟨hit.ok, fun x hx => (hit.mem x hx).bel hb, hit.base, hit.other⟩ (hE.bel hb) hn hil)
 have HFIX := hide (show ∀ (W W' : World) (mk mw cb : Nat), Below w.heap.size w W → In46 mk mw cb g iA items.length iC words.length words words.length W W' → ChartFix W'.heap.size cb mk mw g iA iC items words.length (wsTo words words.length) W' from fun W W' mk mw cb hb h => h.fix (hG.bel hb) (hI.bel hb))
 generalize findF (g.rules.map RuleH.m) (items.map ItemH.m) (hasW (wsTo words words.length)) D = F at *
 simp only [gramV] at HKB
 clear hG hgs hok hI hit hE hR hpl hcI hsI
 have HFIND : Hid (∀ (W wB : World) (mk mw cb : Nat), Below w.heap.size w W → In46 mk mw cb g iA items.length iC words.length words words.length W wB → ∀ W', Below wB.heap.size wB W' →
   Calls Tryz.prog 47 #[.pointer (some ⟨cb, 0, none⟩), .agg #[.int .i64 g.startNo, .int .i64 0, .int .i64 words.length]] W' fun e w9 => ∃ h2, e = .returned (foundV (F g.startNo 0 words.length) h2) ∧ FoundR (fun b => b = w.heap.size + 1) w9 (F g.startNo 0 words.length) h2 ∧ KeptBut (· = mk) W' w9) := hide (fun W wB mk mw cb hb hin W' hW' => by
  refine (HFND.out wB.heap.size cb mk mw (fun b => b = w.heap.size + 1) W' (fun _ => none) ((HFIX.out W wB mk mw cb hb hin).keep hW'.size fun b hb _ => hW'.block b hb) ⟨⟨0, 0, hin.known.bel hW', Nat.zero_le _⟩, fun k v h => by cases h⟩ (fun b h => by have := hb.size; have := hin.low; have := hin.bel.size; have := hW'.size; omega)).mono ?_
  rintro e w9 ⟨h2, m', rfl, h3, _, _, h4⟩
  exact ⟨h2, rfl, h3, h4⟩)
 generalize F g.startNo 0 words.length = fx at *
 clear HFND HFIX hmeas
 go_enter_defers Tryz.func15, Tryz.ntmps15
 go_wp2_with fail
 obtain ⟨W1, hW1⟩ : ∃ W1, W1 = (((w.alloc (.cells #[.string g.name, .slice g.cA g.cats.length g.cC, .string g.start, .int .i64 g.startNo, .slice g.eA g.entries.length g.eC, .slice g.rA g.rules.length g.rC] 26)).alloc (.cells #[.int .i64 0, .int .i64 0, .int .i64 0, .int .i64 0, .slice none 0 0] 52)).alloc (.cells #[.int .i64 0] 29)) := ⟨_, rfl⟩
 have hb1 : Below w.heap.size w W1 := by rw [hW1]; exact kalloc (kalloc (kalloc (Below.refl _ _) _) _) _
 have HG1 := hide (show Blk W1 w.heap.size 26 #[.string g.name, .slice g.cA g.cats.length g.cC, .string g.start, .int .i64 g.startNo, .slice g.eA g.entries.length g.eC, .slice g.rA g.rules.length g.rC] by rw [hW1]; exact ((Blk.new w _ _).alloc _).alloc _)
 have HT1 := hide (show Blk W1 (w.heap.size + 1) 52 #[.int .i64 0, .int .i64 0, .int .i64 0, .int .i64 0, .slice none 0 0] by rw [hW1]; exact (Blk.new1 w _ _ _).alloc _)
 have HE1 := hide (show Blk W1 (w.heap.size + 2) 29 #[.int .i64 0] by rw [hW1]; exact Blk.new2 w _ _ _ _)
 have hz1 : w.heap.size + 3 ≤ W1.heap.size := by rw [hW1]; simp
 have HB1 := hide (show ∀ (W' : World), Below W1.heap.size W1 W' → Below w.heap.size w W' from fun _ h => kcall hb1 h)
 rw [← hW1]
 clear hW1 hb1
 refine Go.Mine.wp_cut (fun a a' w' => ∃ (h2 : TreeH) (b10 : Nat), a' = ((((((((((a.put (some 11) (a'.tmps.getD 11 undef)).put (some 12) (a'.tmps.getD 12 undef)).put (some 13) (a'.tmps.getD 13 undef)).put (some 14) (a'.tmps.getD 14 undef)).put (some 15) (a'.tmps.getD 15 undef)).put (some 16) (a'.tmps.getD 16 undef)).put (some 17) (a'.tmps.getD 17 undef)).put (some 18) (a'.tmps.getD 18 undef)).put (some 19) (a'.tmps.getD 19 undef)).put (some 10) (.pointer (some ⟨b10, 0, none⟩))) ∧ Blk w' b10 98 (foundA fx h2) ∧ FoundR (fun b => b = w.heap.size + 1) w' fx h2 ∧ Below W1.heap.size W1 w' ∧ W1.heap.size ≤ b10) ?_ ?_
 ·refine wp_region_held_drew (S := fun w' => Below W1.heap.size W1 w') (by kernel_rfl) (Below.refl _ _).drew (fun hHeld => ?_)
  (try simp only [Act.put, List.setIfInBounds_toArray, List.set_cons_zero, List.set_cons_succ])
  refine wpAnyH_take (i := 0) (v := ?_) rfl (by kernel_rfl) (by kernel_rfl) (by kernel_rfl) (fun _ _ _ h => h) (Or.inl ⟨by rfl, ?_⟩) (by assumption) ?_
  rotate_left
  ·intro w' hSw
   have m0 := (HG1.out.bel hSw).cell (v := (.string g.name)) 0 rfl
   have m1 := (HG1.out.bel hSw).cell (v := (.slice g.cA g.cats.length g.cC)) 1 rfl
   have m2 := (HG1.out.bel hSw).cell (v := (.string g.start)) 2 rfl
   have m3 := (HG1.out.bel hSw).cell (v := (.int .i64 g.startNo)) 3 rfl
   have m4 := (HG1.out.bel hSw).cell (v := (.slice g.eA g.entries.length g.eC)) 4 rfl
   have m5 := (HG1.out.bel hSw).cell (v := (.slice g.rA g.rules.length g.rC)) 5 rfl
   go_simp
   (try go_bits)
   try with_reducible rfl
  (try simp only [Act.put, List.setIfInBounds_toArray, List.set_cons_zero, List.set_cons_succ])
  refine wpAnyH_take (i := 1) (v := ?_) rfl (by kernel_rfl) (by kernel_rfl) (by kernel_rfl) (fun _ _ _ h => h) (Or.inl ⟨by rfl, ?_⟩) (by assumption) ?_
  rotate_left
  ·intro w' hSw
   go_simp
   (try go_bits)
   try with_reducible rfl
  (try simp only [Act.put, List.setIfInBounds_toArray, List.set_cons_zero, List.set_cons_succ])
  refine wpAnyH_take (i := 2) (v := ?_) rfl (by kernel_rfl) (by kernel_rfl) (by kernel_rfl) (fun _ _ _ h => h) (Or.inl ⟨by rfl, ?_⟩) (by assumption) ?_
  rotate_left
  ·intro w' hSw
   go_simp
   (try go_bits)
   try with_reducible rfl
  (try simp only [Act.put, List.setIfInBounds_toArray, List.set_cons_zero, List.set_cons_succ])
  refine wpAnyH_take (i := 4) (v := ?_) rfl (by kernel_rfl) (by kernel_rfl) (by kernel_rfl) (fun _ _ _ h => h) (Or.inl ⟨by rfl, ?_⟩) (by assumption) ?_
  rotate_left
  ·intro w' hSw
   go_simp
   (try go_bits)
   try with_reducible rfl
  (try simp only [Act.put, List.setIfInBounds_toArray, List.set_cons_zero, List.set_cons_succ])
  refine wpAnyH_take (i := 5) (v := ?_) rfl (by kernel_rfl) (by kernel_rfl) (by kernel_rfl) (fun _ _ _ h => h) (Or.inl ⟨by rfl, ?_⟩) (by assumption) ?_
  rotate_left
  ·intro w' hSw
   have m0 := (HG1.out.bel hSw).cell (v := .int .i64 g.startNo) 3 rfl
   go_simp
   (try go_bits)
   try with_reducible rfl
  (try simp only [Act.put, List.setIfInBounds_toArray, List.set_cons_zero, List.set_cons_succ])
  refine wpAnyH_take (i := 6) (v := ?_) rfl (by kernel_rfl) (by kernel_rfl) (by kernel_rfl) (fun _ _ _ h => h) (Or.inl ⟨by rfl, ?_⟩) (by assumption) ?_
  rotate_left
  ·intro w' hSw
   go_simp
   (try go_bits)
   try with_reducible rfl
  (try simp only [Act.put, List.setIfInBounds_toArray, List.set_cons_zero, List.set_cons_succ])
  refine wpAnyH_take (i := 7) (v := ?_) rfl (by kernel_rfl) (by kernel_rfl) (by kernel_rfl) (fun _ _ _ h => h) (Or.inl ⟨by rfl, ?_⟩) (by assumption) ?_
  rotate_left
  ·intro w' hSw
   go_simp
   (try go_bits)
   try with_reducible rfl
  (try simp only [Act.put, List.setIfInBounds_toArray, List.set_cons_zero, List.set_cons_succ])
  refine wpAnyH_ready (rs := [3, 9]) (by kernel_rfl) (by simp) (AllReadyH.cons rfl (fun K hK => ?_) (AllReadyH.cons rfl (fun K hK => ?_) AllReadyH.nil))
  ·go_simp
   refine (HKB.out _ (HB1.out _ hHeld)).mono ?_
   rintro e wB ⟨mk, mw, cb, rfl, hin⟩
   (try go_simp)
   have hSB := kcall hHeld (bel_of hin.bel)
   refine hK.out _ _ hSB (fun hHeldB => ?_)
   clear hK K
   (try simp only [Act.put, List.setIfInBounds_toArray, List.set_cons_zero, List.set_cons_succ])
   refine wpAnyH_ready (rs := [8, 9]) (by kernel_rfl) (by simp) (AllReadyH.cons rfl (fun K hK => ?_) (AllReadyH.cons rfl (fun K hK => ?_) AllReadyH.nil))
   ·go_simp
    refine (HFIND.out _ _ _ _ _ (HB1.out _ hHeld) hin _ (Below.refl _ _)).mono ?_
    rintro e w9 ⟨h2, rfl, hfr2, hk2⟩
    simp only [foundV]
    (try go_simp)
    have hSF := below_but hSB hk2 (Nat.le_trans hHeld.size (Nat.le_of_lt hin.low.1))
    refine hK.out _ _ hSF (fun hHeldF => ?_)
    clear hK K
    (try simp only [Act.put, List.setIfInBounds_toArray, List.set_cons_zero, List.set_cons_succ])
    refine wpAnyH_ready (rs := [9]) (by kernel_rfl) (by simp) (AllReadyH.cons rfl (fun K hK => ?_) AllReadyH.nil)
    go_simp
    refine hK.out _ _ (kalloc hSF _) (fun hHeldC => ?_)
    clear hK K
    (try simp only [Act.put, List.setIfInBounds_toArray, List.set_cons_zero, List.set_cons_succ])
    refine wpAnyH_ready (rs := [10]) (by kernel_rfl) (by simp) (AllReadyH.cons rfl (fun K hK => ?_) AllReadyH.nil)
    go_simp
    refine hK.out _ _ (kalloc hSF _) (fun hHeldD => ?_)
    clear hK K
    (try simp only [Act.put, List.setIfInBounds_toArray, List.set_cons_zero, List.set_cons_succ])
    have hbA : ∀ o, Below w9.heap.size w9 (w9.alloc o) := fun o => kalloc (Below.refl _ _) o
    refine wpAnyH_done (by kernel_rfl) ?_ _
    exact ⟨h2, w9.heap.size, by kernel_rfl, Blk.new w9 _ 98, hfr2.keep (KeepT.bel (hbA _)), kalloc hSF _, hSF.size⟩
   ·go_simp
    have hSC := kalloc hSB (.cells #[.bool false, .int .i64 0, .int .i64 0, .int .i64 0, .int .i64 0, .int .i64 0, .slice none 0 0, .int .i64 0] 98)
    refine hK.out _ _ hSC (fun hHeldC => ?_)
    clear hK K
    (try simp only [Act.put, List.setIfInBounds_toArray, List.set_cons_zero, List.set_cons_succ])
    refine wpAnyH_ready (rs := [8]) (by kernel_rfl) (by simp) (AllReadyH.cons rfl (fun K hK => ?_) AllReadyH.nil)
    go_simp
    refine (HFIND.out _ _ _ _ _ (HB1.out _ hHeld) hin _ (kalloc (Below.refl wB.heap.size wB) (.cells #[.bool false, .int .i64 0, .int .i64 0, .int .i64 0, .int .i64 0, .int .i64 0, .slice none 0 0, .int .i64 0] 98))).mono ?_
    rintro e w9 ⟨h2, rfl, hfr2, hk2⟩
    simp only [foundV]
    (try go_simp)
    have hSF := below_but hSC hk2 (Nat.le_trans hHeld.size (Nat.le_of_lt hin.low.1))
    refine hK.out _ _ hSF (fun hHeldF => ?_)
    clear hK K
    (try simp only [Act.put, List.setIfInBounds_toArray, List.set_cons_zero, List.set_cons_succ])
    have hblk : Blk w9 wB.heap.size 98 #[.bool false, .int .i64 0, .int .i64 0, .int .i64 0, .int .i64 0, .int .i64 0, .slice none 0 0, .int .i64 0] := Blk.but (Blk.new wB #[.bool false, .int .i64 0, .int .i64 0, .int .i64 0, .int .i64 0, .int .i64 0, .slice none 0 0, .int .i64 0] 98) hk2 (fun e => by have := hin.low; omega)
    have o0 := hblk.cell (v := (.bool false)) 0 rfl
    have o1 := hblk.cell (v := (.int .i64 0)) 1 rfl
    have o2 := hblk.cell (v := (.int .i64 0)) 2 rfl
    have o3 := hblk.cell (v := (.int .i64 0)) 3 rfl
    have o4 := hblk.cell (v := (.int .i64 0)) 4 rfl
    have o5 := hblk.cell (v := (.int .i64 0)) 5 rfl
    have o6 := hblk.cell (v := (.slice none 0 0)) 6 rfl
    have o7 := hblk.cell (v := (.int .i64 0)) 7 rfl
    have ol := hblk.lt
    have ot := hblk.thaw
    have hS8 := setF_below hSF hSB.size fx h2
    have hB8 := setF_blk hblk fx h2
    have hK8 := setF_kept (w := w9) (b := wB.heap.size) fx h2
    have hT8 := KeepT.ofBlk (X := fun b => b = w.heap.size + 1) hblk (by decide) hK8
    unfold setF at hS8 hB8 hK8 hT8
    refine wpAnyH_ready (rs := [10]) (by kernel_rfl) (by simp) (AllReadyH.cons rfl (fun K hK => ?_) AllReadyH.nil)
    go_simp
    refine hK.out _ _ hS8 (fun hHeldD => ?_)
    clear hK K
    (try simp only [Act.put, List.setIfInBounds_toArray, List.set_cons_zero, List.set_cons_succ])
    refine wpAnyH_done (by kernel_rfl) ?_ _
    exact ⟨h2, wB.heap.size, by kernel_rfl, hB8, hfr2.keep hT8, hS8, hSB.size⟩
  ·go_simp
   have hSC := kalloc hHeld (.cells #[.bool false, .int .i64 0, .int .i64 0, .int .i64 0, .int .i64 0, .int .i64 0, .slice none 0 0, .int .i64 0] 98)
   refine hK.out _ _ hSC (fun hHeldC => ?_)
   clear hK K
   (try simp only [Act.put, List.setIfInBounds_toArray, List.set_cons_zero, List.set_cons_succ])
   refine wpAnyH_ready (rs := [3]) (by kernel_rfl) (by simp) (AllReadyH.cons rfl (fun K hK => ?_) AllReadyH.nil)
   go_simp
   refine (HKB.out _ (HB1.out _ hSC)).mono ?_
   rintro e wB ⟨mk, mw, cb, rfl, hin⟩
   (try go_simp)
   have hSB := kcall hSC (bel_of hin.bel)
   refine hK.out _ _ hSB (fun hHeldB => ?_)
   clear hK K
   (try simp only [Act.put, List.setIfInBounds_toArray, List.set_cons_zero, List.set_cons_succ])
   refine wpAnyH_ready (rs := [8]) (by kernel_rfl) (by simp) (AllReadyH.cons rfl (fun K hK => ?_) AllReadyH.nil)
   go_simp
   refine (HFIND.out _ _ _ _ _ (HB1.out _ hSC) hin _ (Below.refl _ _)).mono ?_
   rintro e w9 ⟨h2, rfl, hfr2, hk2⟩
   simp only [foundV]
   (try go_simp)
   have hSF := below_but hSB hk2 (Nat.le_trans hSC.size (Nat.le_of_lt hin.low.1))
   refine hK.out _ _ hSF (fun hHeldF => ?_)
   clear hK K
   (try simp only [Act.put, List.setIfInBounds_toArray, List.set_cons_zero, List.set_cons_succ])
   have hblk : Blk w9 W1.heap.size 98 #[.bool false, .int .i64 0, .int .i64 0, .int .i64 0, .int .i64 0, .int .i64 0, .slice none 0 0, .int .i64 0] := Blk.but ((Blk.new W1.drew #[.bool false, .int .i64 0, .int .i64 0, .int .i64 0, .int .i64 0, .int .i64 0, .slice none 0 0, .int .i64 0] 98).bel (bel_of hin.bel)) hk2 (fun e => by have := hin.low.1; have h5 := World.size_alloc W1.drew (.cells #[.bool false, .int .i64 0, .int .i64 0, .int .i64 0, .int .i64 0, .int .i64 0, .slice none 0 0, .int .i64 0] 98); have h6 : W1.drew.heap.size = W1.heap.size := rfl; omega)
   have o0 := hblk.cell (v := (.bool false)) 0 rfl
   have o1 := hblk.cell (v := (.int .i64 0)) 1 rfl
   have o2 := hblk.cell (v := (.int .i64 0)) 2 rfl
   have o3 := hblk.cell (v := (.int .i64 0)) 3 rfl
   have o4 := hblk.cell (v := (.int .i64 0)) 4 rfl
   have o5 := hblk.cell (v := (.int .i64 0)) 5 rfl
   have o6 := hblk.cell (v := (.slice none 0 0)) 6 rfl
   have o7 := hblk.cell (v := (.int .i64 0)) 7 rfl
   have ol := hblk.lt
   have ot := hblk.thaw
   have hS8 := setF_below hSF (Nat.le_refl _) fx h2
   have hB8 := setF_blk hblk fx h2
   have hK8 := setF_kept (w := w9) (b := W1.heap.size) fx h2
   have hT8 := KeepT.ofBlk (X := fun b => b = w.heap.size + 1) hblk (by decide) hK8
   unfold setF at hS8 hB8 hK8 hT8
   refine wpAnyH_ready (rs := [10]) (by kernel_rfl) (by simp) (AllReadyH.cons rfl (fun K hK => ?_) AllReadyH.nil)
   go_simp
   refine hK.out _ _ hS8 (fun hHeldD => ?_)
   clear hK K
   (try simp only [Act.put, List.setIfInBounds_toArray, List.set_cons_zero, List.set_cons_succ])
   refine wpAnyH_done (by kernel_rfl) ?_ _
   exact ⟨h2, W1.heap.size, by kernel_rfl, hB8, hfr2.keep hT8, hS8, (Nat.le_refl _)⟩
 ·rintro a' W3 ⟨h2, b10, ha, hb10, hf2, hb3, hge⟩
  generalize a'.tmps.getD 11 undef = y11 at ha
  generalize a'.tmps.getD 12 undef = y12 at ha
  generalize a'.tmps.getD 13 undef = y13 at ha
  generalize a'.tmps.getD 14 undef = y14 at ha
  generalize a'.tmps.getD 15 undef = y15 at ha
  generalize a'.tmps.getD 16 undef = y16 at ha
  generalize a'.tmps.getD 17 undef = y17 at ha
  generalize a'.tmps.getD 18 undef = y18 at ha
  generalize a'.tmps.getD 19 undef = y19 at ha
  simp only [Act.put, List.setIfInBounds_toArray, List.set_cons_zero, List.set_cons_succ] at ha
  subst ha
  have HB10 := hide hb10
  have HF2 := hide hf2
  have HT3 := hide (HT1.out.bel hb3)
  have HE3 := hide (HE1.out.bel hb3)
  have HW3 := hide (HB1.out _ hb3)
  have hn10 : ¬ (b10 = w.heap.size + 1 ∨ b10 = w.heap.size + 2) := by omega
  have q0 := HT3.out.cell (v := .int .i64 0) 0 rfl
  have q1 := HT3.out.cell (v := .int .i64 0) 1 rfl
  have q2 := HT3.out.cell (v := .int .i64 0) 2 rfl
  have q3 := HT3.out.cell (v := .int .i64 0) 3 rfl
  have q4 := HT3.out.cell (v := .slice none 0 0) 4 rfl
  have ql := HT3.out.lt
  have qt := HT3.out.thaw
  have r0 := HE3.out.cell (v := .int .i64 0) 0 rfl
  have rl := HE3.out.lt
  have rt := HE3.out.thaw 0
  have HS5 := hide ((((((KeptBut.refl (fun b => b = w.heap.size + 1 ∨ b = w.heap.size + 2) W3).set (p := ⟨w.heap.size + 1, 0, none⟩) (.int .i64 h2.rule) (.inl (.inl rfl))).set (p := ⟨w.heap.size + 1, 1, none⟩) (.int .i64 h2.item) (.inl (.inl rfl))).set (p := ⟨w.heap.size + 1, 2, none⟩) (.int .i64 h2.from_) (.inl (.inl rfl))).set (p := ⟨w.heap.size + 1, 3, none⟩) (.int .i64 h2.until_) (.inl (.inl rfl))).set (p := ⟨w.heap.size + 1, 4, none⟩) (.slice h2.kA h2.kids.length h2.kC) (.inl (.inl rfl)))
  have hT5 := ((((HT3.out.set 0 (.int .i64 h2.rule) rfl).set 1 (.int .i64 h2.item) rfl).set 2 (.int .i64 h2.from_) rfl).set 3 (.int .i64 h2.until_) rfl).set 4 (.slice h2.kA h2.kids.length h2.kC) (cs' := #[.int .i64 h2.rule, .int .i64 h2.item, .int .i64 h2.from_, .int .i64 h2.until_, .slice h2.kA h2.kids.length h2.kC]) rfl
  have HS6 := hide (HS5.out.set (p := ⟨w.heap.size + 2, 0, none⟩) (.int .i64 0) (.inl (.inr rfl)))
  have hT6 := hT5.far ⟨w.heap.size + 2, 0, none⟩ (.int .i64 0) (by dsimp only; omega)
  have hE5 := Blk.but (Blk.far (Blk.far (Blk.far (Blk.far (Blk.far HE3.out ⟨w.heap.size + 1, 0, none⟩ (.int .i64 h2.rule) (by dsimp only; omega)) ⟨w.heap.size + 1, 1, none⟩ (.int .i64 h2.item) (by dsimp only; omega)) ⟨w.heap.size + 1, 2, none⟩ (.int .i64 h2.from_) (by dsimp only; omega)) ⟨w.heap.size + 1, 3, none⟩ (.int .i64 h2.until_) (by dsimp only; omega)) ⟨w.heap.size + 1, 4, none⟩ (.slice h2.kA h2.kids.length h2.kC) (by dsimp only; omega)) (KeptBut.refl (fun _ => False) _) (fun h => h)
  have hE6 := hE5.set 0 (.int .i64 0) (cs' := #[.int .i64 0]) rfl
  have s0 := hE5.cell (v := .int .i64 0) 0 rfl
  have sl := hE5.lt
  have st := hE5.thaw 0
  have e0 := hT6.cell (v := .int .i64 h2.rule) 0 rfl
  have e1 := hT6.cell (v := .int .i64 h2.item) 1 rfl
  have e2 := hT6.cell (v := .int .i64 h2.from_) 2 rfl
  have e3 := hT6.cell (v := .int .i64 h2.until_) 3 rfl
  have e4 := hT6.cell (v := .slice h2.kA h2.kids.length h2.kC) 4 rfl
  have e5 := hE6.cell (v := .int .i64 0) 0 rfl
  have HKT := hide (KeepT.but (X := fun b => b = w.heap.size + 1) HS6.out fun b hb => by
   rcases hb with h | h
   ·exact .inl h
   ·subst h
    exact .inr fun cs fz e => by rw [HE3.out.at_] at e; simp at e)
  have HFF := hide (((HF2.out.keep HKT.out).keep (KeepT.bel (Below.refl _ _).drew)).more (X' := fun _ => False) fun b hb => hb.elim)
  have HT6 := hide hT6.drew
  have HE6 := hide hE6.drew
  have HS7 := hide HS5.out.drew
  have HS8 := hide HS6.out.drew
  clear hb10 hf2 hb3 hT5 hT6 hE5 hE6 HB1 HKB HFIND HG1 HT1 HE1
  go_wp2_with fail
  refine Go.Mine.wp_cut (fun a a' w' => a' = ((((((((a.put (some 20) (a'.tmps.getD 20 undef)).put (some 21) (a'.tmps.getD 21 undef)).put (some 22) (a'.tmps.getD 22 undef)).put (some 23) (a'.tmps.getD 23 undef)).put (some 24) (a'.tmps.getD 24 undef)).put (some 25) (a'.tmps.getD 25 undef)).put (some 7) (.int .i64 fx.cost)).put (some 8) (.bool fx.ok)) ∧ Blk w' (w.heap.size + 1) 52 #[.int .i64 h2.rule, .int .i64 h2.item, .int .i64 h2.from_, .int .i64 h2.until_, .slice h2.kA h2.kids.length h2.kC] ∧ Blk w' (w.heap.size + 2) 29 #[.int .i64 0] ∧ FoundR (fun _ => False) w' fx h2 ∧ KeptBut (fun b => b = w.heap.size + 1 ∨ b = w.heap.size + 2) W3 w') ?_ ?_
  ·refine wp_region_held_drew (S := fun w' => KeptBut (fun b => b = w.heap.size + 1 ∨ b = w.heap.size + 2) W3 w') (by kernel_rfl) (KeptBut.refl _ _).drew (fun hHeld => ?_)
   (try simp only [Act.put, List.setIfInBounds_toArray, List.set_cons_zero, List.set_cons_succ])
   refine wpAnyH_take (i := 0) (v := ?_) rfl (by kernel_rfl) (by kernel_rfl) (by kernel_rfl) (fun _ _ _ h => h) (Or.inl ⟨by rfl, ?_⟩) (by assumption) ?_
   rotate_left
   ·intro w' hSw
    go_simp
    (try go_bits)
    try with_reducible rfl
   (try simp only [Act.put, List.setIfInBounds_toArray, List.set_cons_zero, List.set_cons_succ])
   refine wpAnyH_take (i := 1) (v := ?_) rfl (by kernel_rfl) (by kernel_rfl) (by kernel_rfl) (fun _ _ _ h => h) (Or.inl ⟨by rfl, ?_⟩) (by assumption) ?_
   rotate_left
   ·intro w' hSw
    have m0 := (Blk.but HB10.out hSw hn10).cell (v := (.int .i64 h2.rule)) 2 rfl
    have m1 := (Blk.but HB10.out hSw hn10).cell (v := (.int .i64 h2.item)) 3 rfl
    have m2 := (Blk.but HB10.out hSw hn10).cell (v := (.int .i64 h2.from_)) 4 rfl
    have m3 := (Blk.but HB10.out hSw hn10).cell (v := (.int .i64 h2.until_)) 5 rfl
    have m4 := (Blk.but HB10.out hSw hn10).cell (v := (.slice h2.kA h2.kids.length h2.kC)) 6 rfl
    go_simp
    (try go_bits)
    try with_reducible rfl
   (try simp only [Act.put, List.setIfInBounds_toArray, List.set_cons_zero, List.set_cons_succ])
   refine wpAnyH_take (i := 2) (v := ?_) rfl (by kernel_rfl) (by kernel_rfl) (by kernel_rfl) (fun _ _ _ h => h) (Or.inl ⟨by rfl, ?_⟩) (by assumption) ?_
   rotate_left
   ·intro w' hSw
    go_simp
    (try go_bits)
    try with_reducible rfl
   (try simp only [Act.put, List.setIfInBounds_toArray, List.set_cons_zero, List.set_cons_succ])
   refine wpAnyH_take (i := 3) (v := ?_) rfl (by kernel_rfl) (by kernel_rfl) (by kernel_rfl) (fun _ _ _ h => h) (Or.inl ⟨by rfl, ?_⟩) (by assumption) ?_
   rotate_left
   ·intro w' hSw
    have m0 := (Blk.but HB10.out hSw hn10).cell (v := (.int .i64 fx.cost)) 1 rfl
    go_simp
    (try go_bits)
    try with_reducible rfl
   (try simp only [Act.put, List.setIfInBounds_toArray, List.set_cons_zero, List.set_cons_succ])
   refine wpAnyH_take (i := 4) (v := ?_) rfl (by kernel_rfl) (by kernel_rfl) (by kernel_rfl) (fun _ _ _ h => h) (Or.inl ⟨by rfl, ?_⟩) (by assumption) ?_
   rotate_left
   ·intro w' hSw
    go_simp
    (try go_bits)
    try with_reducible rfl
   (try simp only [Act.put, List.setIfInBounds_toArray, List.set_cons_zero, List.set_cons_succ])
   refine wpAnyH_take (i := 5) (v := ?_) rfl (by kernel_rfl) (by kernel_rfl) (by kernel_rfl) (fun _ _ _ h => h) (Or.inl ⟨by rfl, ?_⟩) (by assumption) ?_
   rotate_left
   ·intro w' hSw
    have m0 := (Blk.but HB10.out hSw hn10).cell (v := (.bool fx.ok)) 0 rfl
    go_simp
    (try go_bits)
    try with_reducible rfl
   (try simp only [Act.put, List.setIfInBounds_toArray, List.set_cons_zero, List.set_cons_succ])
   refine wpAnyH_ready (rs := [6]) (by kernel_rfl) (by simp) (AllReadyH.cons rfl (fun K hK => ?_) AllReadyH.nil)
   go_simp
   refine hK.out _ _ HS7.out (fun hHeld2 => ?_)
   clear hK K
   (try simp only [Act.put, List.setIfInBounds_toArray, List.set_cons_zero, List.set_cons_succ])
   refine wpAnyH_ready (rs := [7]) (by kernel_rfl) (by simp) (AllReadyH.cons rfl (fun K hK => ?_) AllReadyH.nil)
   go_simp
   refine hK.out _ _ HS7.out (fun hHeld2 => ?_)
   clear hK K
   (try simp only [Act.put, List.setIfInBounds_toArray, List.set_cons_zero, List.set_cons_succ])
   refine wpAnyH_ready (rs := [8]) (by kernel_rfl) (by simp) (AllReadyH.cons rfl (fun K hK => ?_) AllReadyH.nil)
   go_simp
   refine hK.out _ _ HS7.out (fun hHeld2 => ?_)
   clear hK K
   (try simp only [Act.put, List.setIfInBounds_toArray, List.set_cons_zero, List.set_cons_succ])
   refine wpAnyH_ready (rs := [9]) (by kernel_rfl) (by simp) (AllReadyH.cons rfl (fun K hK => ?_) AllReadyH.nil)
   go_simp
   refine hK.out _ _ HS8.out (fun hHeld2 => ?_)
   clear hK K
   (try simp only [Act.put, List.setIfInBounds_toArray, List.set_cons_zero, List.set_cons_succ])
   refine wpAnyH_done (by kernel_rfl) ?_ _
   exact ⟨by kernel_rfl, HT6.out, HE6.out, HFF.out, HS8.out⟩
  ·rintro a' W6 ⟨ha, hT, hE, hF, hK⟩
   generalize a'.tmps.getD 20 undef = z20 at ha
   generalize a'.tmps.getD 21 undef = z21 at ha
   generalize a'.tmps.getD 22 undef = z22 at ha
   generalize a'.tmps.getD 23 undef = z23 at ha
   generalize a'.tmps.getD 24 undef = z24 at ha
   generalize a'.tmps.getD 25 undef = z25 at ha
   simp only [Act.put, List.setIfInBounds_toArray, List.set_cons_zero, List.set_cons_succ] at ha
   subst ha
   have x0 := hT.cell (v := .int .i64 h2.rule) 0 rfl
   have x1 := hT.cell (v := .int .i64 h2.item) 1 rfl
   have x2 := hT.cell (v := .int .i64 h2.from_) 2 rfl
   have x3 := hT.cell (v := .int .i64 h2.until_) 3 rfl
   have x4 := hT.cell (v := .slice h2.kA h2.kids.length h2.kC) 4 rfl
   have x5 := hE.cell (v := .int .i64 0) 0 rfl
   have HFN := hide hF
   have HBW := hide (HW3.out.trans (hK.toBelow (B := w.heap.size) (by have := HW3.out.size; omega) (fun x hx => by omega)))
   clear hT hE hF hK HS5 HS6 HS7 HS8 HT6 HE6 HFF HKT e0 e1 e2 e3 e4 e5 q0 q1 q2 q3 q4 ql qt r0 rl rt s0 sl st
   go_wp2
   refine leaves_cons (f := 45) (args := #[.pointer (some ⟨w.heap.size + 1 + 1, 0, none⟩)]) (by simp) (by simp [go_sem]) ?_
   refine (ignore45 (w.heap.size + 1 + 1) _).mono ?_
   rintro e u' w'' ⟨rfl, rfl, rfl⟩
   simp [Leaves, settle, results, Tryz.results15, go_sem, x0, x1, x2, x3, x4, x5]
   exact ⟨h2, rfl, HFN.out, HBW.out⟩


end Go.Proofs.YtkfdafeonhnloaaGreatDoor
