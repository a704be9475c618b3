/-
 tags.Items: the walk.
-/
import Derived.Test.YtkfdafeonhnloaaGreatDoorGM22
import Derived.Test.YtkfdafeonhnloaaGreatDoorGM17
namespace Go.Proofs.YtkfdafeonhnloaaGreatDoor
open Go.RowKit Go.Shelf Go.Mine Go.Mine.C
attribute [local go_sem] Oper.semAt_some
theorem items_bad {g : GramH} {lang at_ known : Int} {l : List TermH} {words : List ByteArray} {w W : World} {a : Act} {er : Int} (hd : a.defers = []) (q : Nat) (h2 : a.tmps.getD 12 undef = .pointer (some ⟨q, 0, none⟩)) (h3 : a.tmps.getD 13 undef = .int .i64 er) (hb : Blk W q 46 #[.slice none 0 0])
  (hp : ItemsPost g lang at_ known l words w W (.returned (.tuple #[.slice none 0 0, .int .i64 er]))) (hk : Below w.heap.size w W) : bodyPost Tryz.prog Tryz.f13 (fun e w' => ItemsPost g lang at_ known l words w w' e ∧ Below w.heap.size w w') .ret a W := by
 have y0 := hb.cell (v := .slice none 0 0) 0 rfl
 refine bodyPost_ret (v := .tuple #[.slice none 0 0, .int .i64 er]) ?_ hd ⟨hp, hk⟩
 have h2' : a.tmps[12]?.getD undef = .pointer (some ⟨q, 0, none⟩) := by simpa using h2
 have h3' : a.tmps[13]?.getD undef = .int .i64 er := by simpa using h3
 simp [results, Tryz.results13, go_sem, h2', h3', y0]
theorem items_good {g : GramH} {lang at_ known : Int} {l : List TermH} {words : List ByteArray} {w W : World} {a : Act} {v : Value} (hd : a.defers = []) (q : Nat) (h2 : a.tmps.getD 12 undef = .pointer (some ⟨q, 0, none⟩)) (h3 : a.tmps.getD 13 undef = .int .i64 0) (hb : Blk W q 46 #[v])
  (hp : ItemsPost g lang at_ known l words w W (.returned (.tuple #[v, .int .i64 0]))) (hk : Below w.heap.size w W) : bodyPost Tryz.prog Tryz.f13 (fun e w' => ItemsPost g lang at_ known l words w w' e ∧ Below w.heap.size w w') .ret a W := by
 have y0 := hb.cell (v := v) 0 rfl
 refine bodyPost_ret (v := .tuple #[v, .int .i64 0]) ?_ hd ⟨hp, hk⟩
 have h2' : a.tmps[12]?.getD undef = .pointer (some ⟨q, 0, none⟩) := by simpa using h2
 have h3' : a.tmps[13]?.getD undef = .int .i64 0 := by simpa using h3
 simp [results, Tryz.results13, go_sem, h2', h3', y0]
structure IBx (g : GramH) (wA : Option Addr) (wC nw : Nat) (w W : World) (v : Value) : Prop where
 gram : Blk W w.heap.size 26 #[.string g.name, .slice g.cA g.cats.length g.cC, .string g.start, .int .i64 g.startNo, .slice g.eA g.entries.length g.eC, .slice g.rA g.rules.length g.rC]
 words : Blk W (w.heap.size + 1) 22 #[.slice wA nw wC]
 items : Blk W (w.heap.size + 2) 46 #[v]
 bel : Below w.heap.size w W
theorem IBx.belw {g : GramH} {wA : Option Addr} {wC nw : Nat} {w W W' : World} {v : Value} (h : IBx g wA wC nw w W v) (hb : Below W.heap.size W W') : IBx g wA wC nw w W' v := ⟨h.gram.bel hb, h.words.bel hb, h.items.bel hb, kcall h.bel hb⟩
set_option maxRecDepth 100000 in
set_option maxHeartbeats 8000000 in
theorem items13 (g : GramH) (lA : Option Addr) (lC : Nat) (l : List TermH) (lang : Int) (wA : Option Addr) (wC : Nat) (words : List ByteArray) (at_ known : Int) (w : World) (hG : GramOk w g) (hgs : GramS g) (hl : Sl termC 8 w lA lC l) (hlo : ∀ x ∈ l, TermOk w x) (hw : Sl sc 1 w wA wC words) (hE : Env w) :
  Calls Tryz.prog 13 #[gramV g, .slice lA l.length lC, .int .i64 lang, .slice wA words.length wC, .int .i64 at_, .int .i64 known] w fun e w' => ItemsPost g lang at_ known l words w w' e ∧ Below w.heap.size w w' := by
 have HG := hide hG
 have HGS := hide hgs
 have HL := hide hl
 have HLO := hide hlo
 have HW := hide hw
 have HE := hide hE
 have HPRE := hide (show preI g lang at_ known l words = (okB g && (standB lang at_ known l && decide (words.length ≤ 16))) from rfl)
 have HB0 := hide (Below.refl w.heap.size w)
 have hll := hl.le
 have hlm := hl.max
 have hwl := hw.le
 have hwm := hw.max
 clear hG hgs hl hlo hw hE
 simp only [gramV]
 go_enter Tryz.func13, Tryz.ntmps13
 (refine wp_seq_k (fun K hK => ?_); replace hK := hide hK; go_wp2_with fail; refine hK.out _ _ ?_; clear hK K)
 refine at_world (fun W => IBx g wA wC words.length w W (.slice none 0 0)) ⟨((Blk.new w _ 26).alloc _).alloc _, (Blk.new1 w _ _ 22).alloc _, Blk.new2 w _ _ _ 46, kalloc (kalloc (kalloc (Below.refl _ _) _) _) _⟩ ?_
 intro W1 hX
 have K1 := check31 g W1 (HG.out.bel hX.bel) HGS.out (HE.out.bel hX.bel)
 simp only [gramV] at K1
 replace K1 := hide K1
 have c0 := hX.gram.cell (v := .string g.name) 0 rfl
 have c1 := hX.gram.cell (v := .slice g.cA g.cats.length g.cC) 1 rfl
 have c2 := hX.gram.cell (v := .string g.start) 2 rfl
 have c3 := hX.gram.cell (v := .int .i64 g.startNo) 3 rfl
 have c4 := hX.gram.cell (v := .slice g.eA g.entries.length g.eC) 4 rfl
 have c5 := hX.gram.cell (v := .slice g.rA g.rules.length g.rC) 5 rfl
 have cl := hX.gram.lt
 have HX := hide hX
 clear hX
 go_wp2_with fail
 refine K1.out.mono ?_
 rintro e W2 ⟨⟨er, rfl, her⟩, hb2⟩
 replace HX := hide (HX.out.belw hb2)
 have HER := hide her
 clear hb2 her K1 c0 c1 c2 c3 c4 c5 cl
 have i0 := HX.out.items.cell (v := .slice none 0 0) 0 rfl
 have il := HX.out.items.lt
 have it := HX.out.items.thaw 0
 by_cases h0 : er = 0
 case neg =>
  have g1 : (er == 0) = false := by simpa using h0
  have g2 : (er != 0) = true := by rw [bne, g1]; rfl
  have HF := hide (show preI g lang at_ known l words = false by
   have : okB g = false := by
    cases h : okB g
    ·rfl
    ·exact absurd (HER.out.2 h) h0
   rw [HPRE.out, this, Bool.false_and])
  have HN := hide h0
  clear h0
  go_wp2
  exact items_bad rfl (w.heap.size + 2) rfl rfl (HX.out.items.set 0 _ rfl) (ItemsPost.bad HN.out HF.out) (HX.out.bel.setCell (by dsimp only; omega) _)
 subst h0
 have hok := HER.out.1 rfl
 rw [hok, Bool.true_and] at HPRE
 have HOK := hide hok
 clear hok HER
 have K2 := hide (standing32 lang at_ known lA lC l W2 (HL.out.bel HX.out.bel) (fun x hx => (HLO.out x hx).bel HX.out.bel) (HE.out.bel HX.out.bel))
 go_wp2_with fail
 refine K2.out.mono ?_
 rintro e W3 ⟨⟨sv, er, rfl, her, hst⟩, hb3⟩
 have HX2 := HX.out.bel.size
 replace HX := hide (HX.out.belw hb3)
 have HER := hide her
 have HST := hide hst
 clear hb3 her hst K2 i0 il it
 have i0 := HX.out.items.cell (v := .slice none 0 0) 0 rfl
 have il := HX.out.items.lt
 have it := HX.out.items.thaw 0
 have w0 := HX.out.words.cell (v := .slice wA words.length wC) 0 rfl
 have wl := HX.out.words.lt
 by_cases h0 : er = 0
 case neg =>
  have g1 : (er == 0) = false := by simpa using h0
  have g2 : (er != 0) = true := by rw [bne, g1]; rfl
  have HF := hide (show preI g lang at_ known l words = false by
   have : standB lang at_ known l = false := by
    cases h : standB lang at_ known l
    ·rfl
    ·exact absurd (HER.out.2 h) h0
   rw [HPRE.out, this, Bool.false_and])
  have HN := hide h0
  clear h0
  go_wp2
  exact items_bad rfl (w.heap.size + 2) rfl rfl (HX.out.items.set 0 _ rfl) (ItemsPost.bad HN.out HF.out) (HX.out.bel.setCell (by dsimp only; omega) _)
 subst h0
 have hsb := HER.out.1 rfl
 rw [hsb, Bool.true_and] at HPRE
 have HSB := hide hsb
 have HOS := hide (HST.out rfl)
 clear hsb HER HST
 by_cases h16 : words.length ≤ 16
 case neg =>
  have g1 : decide ((16 : Int) < words.length) = true := decide_eq_true (by omega)
  have HF := hide (show preI g lang at_ known l words = false by rw [HPRE.out, decide_eq_false h16])
  clear h16
  go_wp2
  exact items_bad rfl (w.heap.size + 2) rfl rfl (HX.out.items.set 0 _ rfl) (ItemsPost.bad (by decide) HF.out) (HX.out.bel.setCell (by dsimp only; omega) _)
 have g1 : decide ((16 : Int) < words.length) = false := decide_eq_false (by omega)
 rw [decide_eq_true h16] at HPRE
 have H16 := hide h16
 have c0 := HX.out.gram.cell (v := .string g.name) 0 rfl
 have c1 := HX.out.gram.cell (v := .slice g.cA g.cats.length g.cC) 1 rfl
 have c2 := HX.out.gram.cell (v := .string g.start) 2 rfl
 have c3 := HX.out.gram.cell (v := .int .i64 g.startNo) 3 rfl
 have c4 := HX.out.gram.cell (v := .slice g.eA g.entries.length g.eC) 4 rfl
 have c5 := HX.out.gram.cell (v := .slice g.rA g.rules.length g.rC) 5 rfl
 have cl := HX.out.gram.lt
 have hmm := @run_makeMap Tryz.prog
 obtain ⟨sA, sC, rfl, hsl⟩ := HOS.out.sl
 clear h16
 go_wp2
 clear hmm c0 c1 c2 c3 c4 c5 cl i0 il it w0 wl g1
 have HM0 : Hid (∃ n cnt, n ≤ 0 ∧ MapG Tryz.prog 9 litS okS ((W3.alloc (.map #[] 0)).alloc (.cells (tagCs g W3.heap.size wA wC words.length) 83)) W3.heap.size n (smV (tmOf ((standL lang at_ known l).take 0))) cnt) := hide ⟨0, 0, Nat.le_refl _, (MapG.made W3 Tryz.prog 9 litS okS).alloc _⟩
 have HT0 : Hid (Blk ((W3.alloc (.map #[] 0)).alloc (.cells (tagCs g W3.heap.size wA wC words.length) 83)) (W3.heap.size + 1) 83 (tagCs g W3.heap.size wA wC words.length)) := hide (Blk.new1 W3 _ _ 83)
 have HB3 := hide (kalloc (kalloc (Below.refl W3.heap.size W3) (.map #[] 0)) (.cells (tagCs g W3.heap.size wA wC words.length) 83))
 obtain ⟨W4, hW4⟩ : ∃ x, x = (W3.alloc (.map #[] 0)).alloc (.cells (tagCs g W3.heap.size wA wC words.length) 83) := ⟨_, rfl⟩
 rw [← hW4] at HM0 HT0 HB3
 simp only [tagCs] at hW4
 rw [← hW4]
 clear hW4
 have HSL := hide hsl
 have HRT := hide (show ∀ x ∈ standL lang at_ known l, rightB x = true ∧ TermOk w x from fun x hx => by
  have hm : x ∈ l := (List.mem_filter.1 (show x ∈ l.filter _ from hx)).1
  have ht : termsB l = true := by
   have := HSB.out
   unfold standB at this
   rw [Bool.and_eq_true] at this
   exact this.1
  unfold termsB at ht
  rw [Bool.and_eq_true] at ht
  exact ⟨okTs_right ht.2 x hm, HLO.out x hm⟩)
 have hsl1 := hsl.le
 have hsl2 := hsl.max
 have hslen : (standL lang at_ known l).length ≤ 1024 := by
  have ht : termsB l = true := by
   have := HSB.out
   unfold standB at this
   rw [Bool.and_eq_true] at this
   exact this.1
  unfold termsB at ht
  rw [Bool.and_eq_true, decide_eq_true_eq] at ht
  exact Nat.le_trans (List.length_filter_le _ _) ht.1
 clear hsl
 generalize hst0 : standL lang at_ known l = st at *
 have HSTE := hide hst0
 clear hst0
 obtain ⟨mb, hmb⟩ : ∃ mb, mb = W3.heap.size := ⟨_, rfl⟩
 have HMB := hide hmb
 have hBw := HX.out.bel.size
 have h3w : w.heap.size + 3 ≤ mb := by have := HX.out.items.lt; omega
 have HIN0 : Hid (Tg13 g wA wC words.length mb 0 (tmOf (st.take 0)) w W4) := hide ⟨(HX.out.words.bel HB3.out), by rw [hmb]; exact HT0.out, by rw [hmb]; obtain ⟨n, cnt, hn, hM⟩ := HM0.out; exact ⟨n, cnt, by omega, hM⟩, kcall HX.out.bel HB3.out, h3w⟩
 have HIT0 := hide (HX.out.items.bel HB3.out)
 have HB4 := hide (show Below mb W3 W4 by rw [hmb]; exact HB3.out)
 rw [← hmb]
 clear HM0 HT0 HB3 hmb
 go_loopw [49] (fun iv wr => ∃ k : Nat, k ≤ st.length ∧ iv = .int .i64 k ∧ Hid (Tg13 g wA wC words.length mb k (tmOf (st.take k)) w wr) ∧ Hid (Below mb W3 wr) ∧ Hid (Blk wr (w.heap.size + 2) 46 #[.slice none 0 0])) (fun iv _ => st.length - (nI iv).toNat)
 case atStart => exact ⟨0, Nat.zero_le _, rfl, HIN0, HB4, HIT0⟩
 case round =>
  clear HIN0 HB4 HIT0
  obtain ⟨k, hk, rfl, HIN, HBL, HIT⟩ := hrel
  by_cases hlt : k < st.length
  ·obtain ⟨x, b, off, hx, hdr, hA, hbw, c0, c1, c2, c3, c4, c5, c6, c7⟩ := term_at (HSL.out.below HBL.out (by rw [← HMB.out]; exact Nat.le_refl _)) hlt
   have hmem := List.mem_of_getElem? hx
   obtain ⟨hrx, htx⟩ := HRT.out x hmem
   have hph := right_source hrx
   obtain ⟨f1, f2, f3⟩ := phrase_word hph
   have hsz := joinSp_size f3 (by omega)
   have hoks : okS (joinSp x.source) := by
    have e : (joinSp x.source).size = (Lib.join (x.source.map (·.data.toList)) [32]).length := by rw [Lib.size_eq]; rfl
    unfold okS; rw [e]; exact Nat.le_trans hsz (by decide)
   obtain ⟨sb, so, hsA, hsbw, hscl⟩ := htx.source.addr (by intro e; rw [e] at f1; simp at f1)
   have hst : tmOf (st.take (k + 1)) = putS (tmOf (st.take k)) x := by rw [take_of_get hx, tmOf_snoc]
   subst hA
   rw [hsA] at c4
   obtain ⟨W7, hW7⟩ : ∃ W7, W7 = wr.alloc (.cells #[.int .i64 x.no, .int .i64 x.at_, .int .i64 x.known, .int .i64 x.lang, .slice (some ⟨sb, so, none⟩) x.source.length x.sC, .slice x.tA x.target.length x.tC, .string x.cat, .bool x.gone] 85) := ⟨_, rfl⟩
   have hb7 : Below wr.heap.size wr W7 := by rw [hW7]; exact kalloc (Below.refl _ _) _
   have HX7 := hide (show Blk W7 wr.heap.size 85 #[.int .i64 x.no, .int .i64 x.at_, .int .i64 x.known, .int .i64 x.lang, .slice (some ⟨sb, so, none⟩) x.source.length x.sC, .slice x.tA x.target.length x.tC, .string x.cat, .bool x.gone] by rw [hW7]; exact Blk.new wr _ _)
   have HT7 := hide (HIN.out.tbx.bel hb7)
   have HB7 := hide hb7
   have hmlt : mb < wr.heap.size := by obtain ⟨n, cnt, hn, hM⟩ := HIN.out.map; exact hM.lt
   have htm : ¬ (mb + 1 = mb) := by omega
   have hxm : ¬ (wr.heap.size = mb) := by omega
   have HKJ : Hid (∀ W', Below W7.heap.size W7 W' → Calls Tryz.prog 33 #[.slice (some ⟨sb, so, none⟩) x.source.length x.sC, .string ⟨#[32]⟩] W' fun e w' => e = .returned (.string (joinSp x.source)) ∧ Below W'.heap.size W' w') := hide (fun W' hW' => by
    have hbb := kcall HIN.out.bel (kcall hb7 hW')
    have := sh_strings_Join sb so x.sC x.source ⟨#[32]⟩ W' (fun j y hj => by
     have h2 := hscl j y hj 0 (.string y) rfl
     have h3 := hbb.cell (p := ⟨sb, so + (j * 1 + 0), none⟩) hsbw
     rw [← h3] at h2
     simpa using h2) (Nat.lt_of_lt_of_le hsbw hbb.size) (by omega) htx.source.le (by
     have e : (ByteArray.mk #[32]).data.toList = [32] := rfl
     rw [e]; exact Nat.le_trans hsz (by decide))
    exact this)
   have HPUT : Hid (∀ w3, Below W7.heap.size W7 w3 → ∃ w8, (Instr.mapUpdate 81 (.map (some mb)) (.string (joinSp x.source)) (.agg #[.int .i64 x.no, .int .i64 x.at_, .int .i64 x.known, .int .i64 x.lang, .slice (some ⟨sb, so, none⟩) x.source.length x.sC, .slice x.tA x.target.length x.tC, .string x.cat, .bool x.gone])).run Tryz.prog w3 = .ok () w8 ∧
     Hid (Tg13 g wA wC words.length mb (k + 1) (tmOf (st.take (k + 1))) w w8 ∧ Below mb W3 w8 ∧ Blk w8 (w.heap.size + 2) 46 #[.slice none 0 0]) ∧ KeptBut (· = mb) W7 w8) := hide (fun w3 hb3 => by
    have hb37 : Below W7.heap.size W7 w3 := hb3
    have hz7 := hb7.size
    have hz37 := hb37.size
    obtain ⟨n, cnt, hn, hM⟩ := HIN.out.map
    obtain ⟨w8, e8, hM8, hg8⟩ := ((hM.bel hb7).bel hb37).put keyS Tryz.underlying81 (by unfold maxLen; omega) hoks (termV x)
    simp only [termV] at e8
    rw [hsA] at e8
    have hkb : KeptBut (· = mb) W7 w8 := (KeptBut.of_below hb37).grown hg8 (fun j hj => by cases hj; exact .inl rfl)
    rw [← smV_put, ← hst] at hM8
    exact ⟨w8, e8, ⟨⟨Blk.but (HIN.out.wbx.bel hb7) hkb (by omega), Blk.but HT7.out hkb htm, ⟨_, _, by omega, hM8⟩, Below.grown (kcall HIN.out.bel (kcall hb7 hb37)) hg8 (kcall HIN.out.bel (kcall hb7 hb37)).size (fun j hj => by cases hj; omega), HIN.out.low⟩,
     Below.grown ((HBL.out.trans (hb7.mono (by omega))).trans (hb37.mono (by omega))) hg8 (by have := HMB.out; omega) (fun j hj => by cases hj; exact Nat.le_refl _), Blk.but (HIT.out.bel hb7) hkb (by omega)⟩, hkb⟩)
   clear hdr hx hmem hrx htx hph f1 f2 f3 hsz hoks hscl hst hsA hb7 HIN HBL HIT
   go_wp2_with fail
   rw [← hW7]
   clear hW7 c0 c1 c2 c3 c4 c5 c6 c7
   refine wp_region_held_drew (S := fun w' => KeptBut (· = mb) W7 w') (by kernel_rfl) (KeptBut.refl _ _).drew (fun hHeld => ?_)
   (try simp only [Act.put, List.setIfInBounds_toArray, List.set_cons_zero, List.set_cons_succ])
   refine wpAnyH_take (i := 0) (v := ?_) rfl (by kernel_rfl) (by kernel_rfl) (by kernel_rfl) (fun _ _ _ h => h) (Or.inl ⟨by rfl, ?_⟩) (by assumption) ?_
   rotate_left
   ·intro w' hSw
    go_simp
    (try go_bits)
    try with_reducible rfl
   (try simp only [Act.put, List.setIfInBounds_toArray, List.set_cons_zero, List.set_cons_succ])
   refine wpAnyH_take (i := 1) (v := ?_) rfl (by kernel_rfl) (by kernel_rfl) (by kernel_rfl) (fun _ _ _ h => h) (Or.inl ⟨by rfl, ?_⟩) (by assumption) ?_
   rotate_left
   ·intro w' hSw
    have m0 := (Blk.but HT7.out hSw htm).cell (v := .map (some mb)) 6 rfl
    go_simp
    (try go_bits)
    try with_reducible rfl
   (try simp only [Act.put, List.setIfInBounds_toArray, List.set_cons_zero, List.set_cons_succ])
   refine wpAnyH_take (i := 2) (v := ?_) rfl (by kernel_rfl) (by kernel_rfl) (by kernel_rfl) (fun _ _ _ h => h) (Or.inl ⟨by rfl, ?_⟩) (by assumption) ?_
   rotate_left
   ·intro w' hSw
    go_simp
    (try go_bits)
    try with_reducible rfl
   (try simp only [Act.put, List.setIfInBounds_toArray, List.set_cons_zero, List.set_cons_succ])
   refine wpAnyH_take (i := 3) (v := ?_) rfl (by kernel_rfl) (by kernel_rfl) (by kernel_rfl) (fun _ _ _ h => h) (Or.inl ⟨by rfl, ?_⟩) (by assumption) ?_
   rotate_left
   ·intro w' hSw
    have m0 := (Blk.but HX7.out hSw hxm).cell (v := (.slice (some ⟨sb, so, none⟩) x.source.length x.sC)) 4 rfl
    go_simp
    (try go_bits)
    try with_reducible rfl
   (try simp only [Act.put, List.setIfInBounds_toArray, List.set_cons_zero, List.set_cons_succ])
   refine wpAnyH_take (i := 5) (v := ?_) rfl (by kernel_rfl) (by kernel_rfl) (by kernel_rfl) (fun _ _ _ h => h) (Or.inl ⟨by rfl, ?_⟩) (by assumption) ?_
   rotate_left
   ·intro w' hSw
    have m0 := (Blk.but HX7.out hSw hxm).cell (v := (.int .i64 x.no)) 0 rfl
    have m1 := (Blk.but HX7.out hSw hxm).cell (v := (.int .i64 x.at_)) 1 rfl
    have m2 := (Blk.but HX7.out hSw hxm).cell (v := (.int .i64 x.known)) 2 rfl
    have m3 := (Blk.but HX7.out hSw hxm).cell (v := (.int .i64 x.lang)) 3 rfl
    have m4 := (Blk.but HX7.out hSw hxm).cell (v := (.slice (some ⟨sb, so, none⟩) x.source.length x.sC)) 4 rfl
    have m5 := (Blk.but HX7.out hSw hxm).cell (v := (.slice x.tA x.target.length x.tC)) 5 rfl
    have m6 := (Blk.but HX7.out hSw hxm).cell (v := (.string x.cat)) 6 rfl
    have m7 := (Blk.but HX7.out hSw hxm).cell (v := (.bool x.gone)) 7 rfl
    go_simp
    (try go_bits)
    try with_reducible rfl
   (try simp only [Act.put, List.setIfInBounds_toArray, List.set_cons_zero, List.set_cons_succ])
   refine wpAnyH_ready (rs := [4]) (by kernel_rfl) (by simp) (AllReadyH.cons rfl (fun K hK => ?_) AllReadyH.nil)
   go_simp
   refine (HKJ.out _ (Below.refl W7.heap.size W7).drew).mono ?_
   rintro e w3 ⟨rfl, hb3⟩
   (try go_simp)
   obtain ⟨w8, e8, HIN8, HS8⟩ := HPUT.out w3 (kcall (Below.refl W7.heap.size W7).drew hb3)
   refine hK.out _ _ (KeptBut.of_below (kcall (Below.refl W7.heap.size W7).drew hb3)) (fun hHeld2 => ?_)
   clear hK K
   (try simp only [Act.put, List.setIfInBounds_toArray, List.set_cons_zero, List.set_cons_succ])
   refine wpAnyH_ready (rs := [6]) (by kernel_rfl) (by simp) (AllReadyH.cons rfl (fun K hK => ?_) AllReadyH.nil)
   go_simp
   refine hK.out _ _ HS8 (fun hHeld3 => ?_)
   clear hK K
   (try simp only [Act.put, List.setIfInBounds_toArray, List.set_cons_zero, List.set_cons_succ])
   refine wpAnyH_done (by kernel_rfl) ?_ _
   clear e8
   replace HIN8 := HIN8.out
   have H1 := hide HIN8.1
   have H2 := hide HIN8.2.1
   have H3 := hide HIN8.2.2
   clear HIN8 HS8 HPUT HKJ
   go_wp2
   go_roundw
   case rel => exact ⟨k + 1, by omega, by go_num, H1, H2, H3⟩
   case measure => simp [nI]; omega
  ·obtain rfl : k = st.length := by omega
   rw [List.take_length] at HIN
   have hw0 := HIN.out.wbx.cell (v := .slice wA words.length wC) 0 rfl
   have hwl0 := HIN.out.wbx.lt
   have HIN0 : Hid (Ws13 g wA wC words mb st.length (tmOf st) w wr 0) := hide ⟨HIN.out, [], .slice none 0 0, HIT.out, OwnL.nil _ _ _ _ _, rfl, (by simp), rfl⟩
   obtain ⟨i0, hi, hz0, hz1, hz2⟩ := info_parts Tryz_infoA68
   have HI := hide hi
   clear hi
   have HTM := hide (show ∀ s x, tmOf st s = some x → TermOk w x from fun s x h => (HRT.out x (tmOf_mem st s x h)).2)
   generalize htm0 : tmOf st = tm at *
   have HTME := hide htm0
   clear htm0
   generalize st.length = ns at *
   clear HIN HIT HBL HSL HRT hsl1 hsl2 hslen hk hlt
   go_wp2
   clear hw0 hwl0
   go_loopw [62] (fun iv wp => ∃ i : Nat, i ≤ words.length ∧ iv = .int .i64 i ∧ Hid (Ws13 g wA wC words mb ns tm w wp i)) (fun iv _ => words.length - (nI iv).toNat)
   case atStart => exact ⟨0, Nat.zero_le _, rfl, HIN0⟩
   case round =>
    clear HIN0
    obtain ⟨i, hi, rfl, HS⟩ := hrel
    obtain ⟨htg, is, v, hib, hown, hbg, hok, hwb⟩ := HS.out
    by_cases hlt : i < words.length
    ·obtain ⟨u, wb, wo, hu, hdr, hA, hwbw, c0⟩ := Sl.sc_at (HW.out.bel htg.bel) hlt
     have K34 := hide (word34 u wr (HE.out.bel htg.bel))
     have htk := take_of_get hu
     subst hA
     have HTG := hide htg
     have HOW := hide hown
     have HIB := hide hib
     have HBG := hide hbg
     have HOKI := hide hok
     have HWB := hide hwb
     have HTK := hide htk
     have HU := hide hu
     clear HS htg hib hown hbg hok hwb htk hdr hu
     go_wp2_with fail
     refine K34.out.mono ?_
     rintro e w4 ⟨rfl, hb4⟩
     cases hwu : wordB u
     ·have hall : words.all wordB = false := by
       rw [List.all_eq_false]
       exact ⟨u, List.mem_of_getElem? HU.out, by rw [hwu]; decide⟩
      have HTG4 := hide (kcall HTG.out.bel hb4)
      have HI4 := hide (HIB.out.bel hb4)
      have z0 := HI4.out.cell (v := v) 0 rfl
      have zl := HI4.out.lt
      have zt := HI4.out.thaw 0
      clear hb4 K34 HTG HOW HIB HBG HOKI HWB HTK HU hwbw c0 hwu
      go_wp2
      exact items_bad rfl (w.heap.size + 2) rfl rfl (HI4.out.set 0 _ rfl) (ItemsPost.word hall) (HTG4.out.setCell (by dsimp only; omega) _)
     ·have htg4 := HTG.out.belw hb4
      have own4 := HOW.out.bel hb4
      have ib4 := HIB.out.bel hb4
      obtain ⟨A0, cc0, hve, hsl0⟩ := own4.sl
      have hmle : is.length ≤ 16 := by
       have := congrArg List.length HBG.out
       rw [List.length_map, baseGo_len] at this
       have h16 := H16.out
       rw [this]; simp; omega
      generalize hn0 : is.length = n0 at hve
      subst hve
      have hrow : ∀ gg, (Value.slice A0 n0 cc0).ownBlock = some gg → w.heap.size ≤ gg ∧ gg < w4.heap.size ∧ ∃ cur, w4.heap[gg]? = some (.cells cur 68 (0, 0)) := fun gg hg => own4.blk hg
      have hwd : ((w4.alloc (.cells #[.string u] 9)).alloc (.cells #[.int .i64 (-1), .int .i64 i, .int .i64 ((i : Int) + 1), .int .i64 0, .slice (some ⟨w4.heap.size, 0, none⟩) 1 1, .int .i64 (-1)] 68)).heap.size = w4.heap.size + 2 := by simp
      obtain ⟨v9, w9, hrun, hO9, hg9, hat9⟩ := run_extend (P := Tryz.prog) (w := (w4.alloc (.cells #[.string u] 9)).alloc (.cells #[.int .i64 (-1), .int .i64 i, .int .i64 ((i : Int) + 1), .int .i64 0, .slice (some ⟨w4.heap.size, 0, none⟩) 1 1, .int .i64 (-1)] 68)) (f := itemC) (t := 46) (ty := 46) (base := w.heap.size) (l1 := is) (l2 := [⟨-1, i, (i : Int) + 1, 0, some ⟨w4.heap.size, 0, none⟩, 1, [u], -1⟩]) Tryz.underlying46 HI.out hz0 hz1 hz2 rfl (by decide) ((own4.alloc _).alloc _) (Sl.one (c := 1) (show Blk ((w4.alloc (.cells #[.string u] 9)).alloc (.cells #[.int .i64 (-1), .int .i64 i, .int .i64 ((i : Int) + 1), .int .i64 0, .slice (some ⟨w4.heap.size, 0, none⟩) 1 1, .int .i64 (-1)] 68)) (w4.heap.size + 1) 68 #[.int .i64 (-1), .int .i64 i, .int .i64 ((i : Int) + 1), .int .i64 0, .slice (some ⟨w4.heap.size, 0, none⟩) 1 1, .int .i64 (-1)] from Blk.new' (World.size_alloc w4 _)) rfl rfl (by decide) (by decide)) (ones44 _) (by simp only [List.length_singleton]; unfold maxLen; omega) (by simp only [List.length_singleton]; omega) (by rw [hwd]; have := hrow; have := htg4.bel.size; omega)
      obtain ⟨A9, c9, hv9, hsl9⟩ := hO9.sl
      generalize hn9 : (is ++ [(⟨-1, i, (i : Int) + 1, 0, some ⟨w4.heap.size, 0, none⟩, 1, [u], -1⟩ : ItemH)]).length = n9 at hv9
      subst hv9
      have HRUN := hide hrun
      have hX9 : Blk w9 (w.heap.size + 2) 46 #[.slice A0 n0 cc0] := ((ib4.alloc _).alloc _).grown hg9 (fun e => by
       obtain ⟨_, _, cur, hc⟩ := hrow _ e.symm
       rw [ib4.at_] at hc
       simp at hc)
      have hb4w := htg4.bel.size
      have hlw4 := htg4.low
      obtain ⟨nM, cM, hnM, hMM⟩ := htg4.map
      have hnm : ∀ gg, (Value.slice A0 n0 cc0).ownBlock = some gg → gg ≠ mb := fun gg hg e => by
       obtain ⟨_, _, cur, hc⟩ := hrow _ hg
       obtain ⟨D, ⟨es, clock, hb, _⟩, _⟩ := hMM
       rw [e, hb] at hc
       cases hc
      have hkb : KeptBut (fun b => b = w.heap.size + 2 ∨ (Value.slice A0 n0 cc0).ownBlock = some b) w4 (w9.setCell ⟨w.heap.size + 2, 0, none⟩ (.slice A9 n9 c9)) := (((((KeptBut.refl _ w4).alloc _).alloc _).grown hg9 (fun g hg => .inl (.inr hg))).set (p := ⟨w.heap.size + 2, 0, none⟩) (.slice A9 n9 c9) (.inl (.inl rfl)))
      have hne1 : ∀ b, (∃ cs ty fz, w4.heap[b]? = some (.cells cs ty fz) ∧ ty ≠ 68 ∧ ty ≠ 46) → ¬ (b = w.heap.size + 2 ∨ (Value.slice A0 n0 cc0).ownBlock = some b) := fun b ⟨cs, ty, fz, hb, h1, h2⟩ h => by
       rcases h with h | h
       ·rw [h, ib4.at_] at hb; simp at hb; exact h2 hb.2.1.symm
       ·obtain ⟨_, _, cur, hc⟩ := hrow _ h
        rw [hb] at hc; simp at hc; exact h1 hc.2.1
      have hO9' : OwnL itemC 6 68 (w9.setCell ⟨w.heap.size + 2, 0, none⟩ (.slice A9 n9 c9)) w.heap.size (.slice A9 n9 c9) (is ++ [⟨-1, i, (i : Int) + 1, 0, some ⟨w4.heap.size, 0, none⟩, 1, [u], -1⟩]) := hO9.keep (fun gg hg => Below.heap_setCell _ _ _ _ (fun e => by
       obtain ⟨_, _, cur, hc⟩ := hO9.blk hg
       dsimp only at e
       rw [e, hX9.at_] at hc
       simp at hc))
      obtain ⟨wF, hwF⟩ : ∃ wF, wF = w9.setCell ⟨w.heap.size + 2, 0, none⟩ (.slice A9 n9 c9) := ⟨_, rfl⟩
      have hIF : Blk wF (w.heap.size + 2) 46 #[.slice A9 n9 c9] := by rw [hwF]; exact hX9.set 0 _ rfl
      have hT : Blk (w4.alloc (.cells #[.string u] 9)) w4.heap.size 9 #[.string u] := Blk.new w4 _ _
      have hT9 : Blk wF w4.heap.size 9 #[.string u] := by
       rw [hwF]
       refine Blk.far ((hT.alloc _).grown hg9 (fun e => by have := (hrow _ e.symm).2.1; omega)) _ _ ?_
       have := ib4.lt
       dsimp only
       omega
      rw [← hwF] at hkb hO9'
      have hTF : Tg13 g (some ⟨wb, wo, none⟩) wC words.length mb ns tm w wF := by
       refine ⟨Blk.but htg4.wbx hkb (hne1 _ ⟨_, _, _, htg4.wbx.at_, by decide, by decide⟩), Blk.but htg4.tbx hkb (hne1 _ ⟨_, _, _, htg4.tbx.at_, by decide, by decide⟩), ⟨nM, cM, hnM, hMM.heap (hkb.keep mb hMM.lt ?_)⟩, htg4.bel.trans (hkb.toBelow hb4w ?_), hlw4⟩
       ·intro h
        rcases h with h | h
        ·omega
        ·exact hnm _ h rfl
       ·intro x hx
        rcases hx with h | h
        ·omega
        ·exact (hrow x h).1
      have hmF : (is ++ [(⟨-1, i, (i : Int) + 1, 0, some ⟨w4.heap.size, 0, none⟩, 1, [u], -1⟩ : ItemH)]).map ItemH.m = baseGo (words.take (i + 1)) 0 := by
       rw [List.map_append, HBG.out, HTK.out, baseGo_snoc]
       have hl : (words.take i).length = i := by rw [List.length_take]; omega
       rw [hl, Nat.zero_add]
       rfl
      have hoF : ∀ x ∈ is ++ [(⟨-1, i, (i : Int) + 1, 0, some ⟨w4.heap.size, 0, none⟩, 1, [u], -1⟩ : ItemH)], okItem w.heap.size (fun _ => False) wF x := by
       intro x hx
       rcases List.mem_append.1 hx with hx | hx
       ·refine (okItem_ok w.heap.size).other (HOKI.out x hx) (Nat.le_trans hb4.size hkb.size) (fun b hb hd => ?_)
        have hb' : w4.heap[b]? = wr.heap[b]? := hb4.block b hb
        rw [← hb']
        refine hkb.keep b (Nat.lt_of_lt_of_le hb hb4.size) (fun h => ?_)
        rcases hd with hd | ⟨cs, fz, hd⟩
        ·rcases h with h | h
         ·omega
         ·have := (hrow b h).1; omega
        ·rw [← hb'] at hd
         exact hne1 b ⟨cs, 9, fz, hd, by decide, by decide⟩ h
       ·obtain rfl : x = ⟨-1, i, (i : Int) + 1, 0, some ⟨w4.heap.size, 0, none⟩, 1, [u], -1⟩ := by simpa using hx
        refine ⟨⟨Sl.one hT9 rfl rfl (show 1 ≤ 1 by decide) (show 1 ≤ 9223372036854775807 by decide), fun _ _ _ h => h⟩, fun a ha _ => ?_⟩
        cases ha
        exact .inr ⟨_, _, hT9.at_⟩
      have hwb' : (words.take (i + 1)).all wordB = true := by
       rw [HTK.out, List.all_append, HWB.out]
       simp [hwu]
      have HN : Hid (Ws13 g (some ⟨wb, wo, none⟩) wC words mb ns tm w wF (i + 1)) := hide ⟨hTF, _, _, hIF, hO9', hmF, hoF, hwb'⟩
      have HWF := hide hwF
      clear hwF hIF hT hT9 hTF hmF hoF hwb'
      have x0 := ib4.cell (v := .slice A0 n0 cc0) 0 rfl
      have x1 := ((ib4.alloc (.cells #[.string u] 9)).alloc (.cells #[.int .i64 (-1), .int .i64 i, .int .i64 ((i : Int) + 1), .int .i64 0, .slice (some ⟨w4.heap.size, 0, none⟩) 1 1, .int .i64 (-1)] 68)).cell (v := .slice A0 n0 cc0) 0 rfl
      have xl := ib4.lt
      have y0 := hX9.cell (v := .slice A0 n0 cc0) 0 rfl
      have yl := hX9.lt
      have yt := hX9.thaw 0
      clear htg4 own4 ib4 hsl0 hrow hwd hrun hO9 hg9 hat9 hsl9 hX9 hMM hnm hkb hne1 hO9' hb4 HTG HOW HIB HBG HOKI HWB HTK HU K34 hwu hn0 hn9
      go_wp2_with (at_builtin; refine wpList_append rfl (.tmp 70) (.tmp 77) 46 rfl rfl rfl (G := fun v' w' => v' = .slice A9 n9 c9 ∧ w' = w9) ⟨_, _, HRUN.out, rfl, rfl⟩ ?_)
      have HN2 := HN.out
      rw [HWF.out] at HN2
      exact ⟨⟨i + 1, by omega, by go_num, hide HN2⟩, by simp [nI]; omega⟩
    ·obtain rfl : i = words.length := by omega
     obtain ⟨htg, is, v, hib, hown, hbg, hok, hwb⟩ := HS.out
     rw [List.take_length] at hbg hwb
     have HC := hide (show TagC w g wA wC words tm from ⟨HG.out, HW.out, fun s hs => List.all_eq_true.1 hwb s hs, HTM.out⟩)
     have HWB := hide hwb
     have hlim : g.entries.length ≤ 512 ∧ g.cats.length ≤ 32 := by
      have := HOK.out
      unfold okB preG limB at this
      simp only [Bool.and_eq_true, decide_eq_true_eq] at this
      exact ⟨this.1.1.2.1, this.1.1.1⟩
     have HLIM := hide hlim
     have HP0 : Hid (Pc13 g wA wC words mb ns tm w wr 0) := hide ⟨htg, is, v, hib, hown, by rw [hbg]; simp [placesGo], hok⟩
     have w0 := htg.wbx.cell (v := .slice wA words.length wC) 0 rfl
     have wl := htg.wbx.lt
     clear hlim HS htg hib hown hbg hok hwb hi hlt
     clear is v
     go_wp2
     clear w0 wl
     go_loopw [82] (fun iv wp => ∃ i : Nat, i ≤ words.length ∧ iv = .int .i64 i ∧ Hid (Pc13 g wA wC words mb ns tm w wp i)) (fun iv _ => words.length - (nI iv).toNat)
     case atStart => exact ⟨0, Nat.zero_le _, rfl, HP0⟩
     case round =>
      clear HP0
      obtain ⟨i, hi, rfl, HP⟩ := hrel
      obtain ⟨htg, is, v, hib, hown, his, hok⟩ := HP.out
      by_cases hlt : i < words.length
      ·obtain ⟨A0, cc0, hve, hsl0⟩ := hown.sl
       generalize hn0 : is.length = n0 at hve
       subst hve
       have x0 := hib.cell (v := .slice A0 n0 cc0) 0 rfl
       have xl := hib.lt
       have hmf : ∀ (fn : Fn) (first cap : Array Value) (w : World), (Instr.makeFunc fn first cap).run Tryz.prog w = .ok (.func fn first cap) w := fun _ _ _ _ => rfl
       have HTG := hide htg
       have HIB := hide hib
       have HOW := hide hown
       have HIS := hide his
       have HOKI := hide hok
       have HN0 := hide hn0
       clear HP htg hib hown his hok hn0 hsl0
       go_wp2
       clear x0 xl hmf
       obtain ⟨W5, hW5⟩ : ∃ x, x = ((wr.alloc (.cells #[.int .i64 i] 3)).alloc (.cells #[.int .i64 n0] 3)).alloc (.cells #[cloV w.heap.size mb wr.heap.size (wr.heap.size + 1) 0, cloV w.heap.size mb wr.heap.size (wr.heap.size + 1) 1, cloV w.heap.size mb wr.heap.size (wr.heap.size + 1) 2, cloV w.heap.size mb wr.heap.size (wr.heap.size + 1) 3, cloV w.heap.size mb wr.heap.size (wr.heap.size + 1) 4, cloV w.heap.size mb wr.heap.size (wr.heap.size + 1) 5] 91) := ⟨_, rfl⟩
       have hb5 : Below wr.heap.size wr W5 := by rw [hW5]; exact kalloc (kalloc (kalloc (Below.refl _ _) _) _) _
       have HP5 : Hid (Pl13 g wA wC words.length mb ns tm w i n0 wr.heap.size (wr.heap.size + 1) (wr.heap.size + 2) W5 is (.slice A0 n0 cc0)) := hide ⟨HTG.out.belw hb5, HIB.out.bel hb5, HOW.out.bel hb5, fun x hx => okItem_bel (HOKI.out x hx) hb5, by rw [hW5]; exact ((Blk.new wr _ 3).alloc _).alloc _, by rw [hW5]; exact (Blk.new1 wr _ _ 3).alloc _, by rw [hW5]; exact Blk.new2 wr _ _ _ 91⟩
       have e5 : ((wr.alloc (.cells #[.int .i64 i] 3)).alloc (.cells #[.int .i64 n0] 3)).alloc (.cells #[.func (.func 35) #[] #[.pointer (some ⟨mb + 1, 0, none⟩), .pointer (some ⟨wr.heap.size, 0, none⟩)], .func (.func 37) #[] #[.pointer (some ⟨mb + 1, 0, none⟩), .pointer (some ⟨wr.heap.size, 0, none⟩)], .func (.func 39) #[] #[.pointer (some ⟨w.heap.size + 1 + 1, 0, none⟩), .pointer (some ⟨wr.heap.size + 1, 0, none⟩), .pointer (some ⟨mb + 1, 0, none⟩), .pointer (some ⟨wr.heap.size, 0, none⟩), .pointer (some ⟨w.heap.size + 1, 0, none⟩)], .func (.func 41) #[] #[.pointer (some ⟨mb + 1, 0, none⟩), .pointer (some ⟨wr.heap.size, 0, none⟩)], .func (.func 42) #[] #[.pointer (some ⟨mb + 1, 0, none⟩), .pointer (some ⟨wr.heap.size, 0, none⟩)], .func (.func 43) #[] #[.pointer (some ⟨mb + 1, 0, none⟩), .pointer (some ⟨wr.heap.size, 0, none⟩)]] 91) = W5 := by rw [hW5]; rfl
       rw [e5]
       clear e5 hW5 hb5 HTG HIB HOW
       obtain ⟨u, hu⟩ : ∃ u, words[i]? = some u := ⟨words[i], List.getElem?_eq_getElem hlt⟩
       have HU := hide hu
       clear hu
       generalize hq0 : wr.heap.size = q0 at *
       clear hq0
       have HPc0 : Hid (∃ is1 v1, Pl13 g wA wC words.length mb ns tm w i n0 q0 (q0 + 1) (q0 + 2) W5 is1 v1 ∧ is1.map ItemH.m = is.map ItemH.m ++ piecesTo tm g words i u 0) := hide ⟨is, _, HP5.out, by simp [piecesTo]⟩
       clear HP5 HOKI
       go_loopw [95] (fun jv wq => ∃ k : Nat, k ≤ 6 ∧ jv = .int .i64 k ∧ Hid (∃ is1 v1, Pl13 g wA wC words.length mb ns tm w i n0 q0 (q0 + 1) (q0 + 2) wq is1 v1 ∧ is1.map ItemH.m = is.map ItemH.m ++ piecesTo tm g words i u k)) (fun jv _ => 6 - (nI jv).toNat)
       case atStart => exact ⟨0, Nat.zero_le _, rfl, HPc0⟩
       case round =>
        clear HPc0
        obtain ⟨k, hk, rfl, HP⟩ := hrel
        obtain ⟨is1, v1, hP, hm1⟩ := HP.out
        by_cases hk6 : k < 6
        ·obtain ⟨A1, c1, hve1, hsl1⟩ := hP.own.sl
         generalize hn1 : is1.length = n1 at hve1
         subst hve1
         have HCL : Hid (∀ W', Below wr.heap.size wr W' → Calls Tryz.prog (cloF k) (cloC w.heap.size mb q0 (q0 + 1) k) W' fun e W'' => AddsPost w (piece tm g words i u k) e W'' ∧ Below W'.heap.size W' W'') := hide (fun W' hW' => clos g wA wC words mb ns tm w i n0 q0 (q0 + 1) (q0 + 2) W' is1 _ k u _ hk6 (hP.belw hW') HC.out HU.out H16.out HLIM.out.1 HLIM.out.2 hm1 (by rw [List.length_map]; exact HN0.out))
         have hlen1 : is1.length + (piece tm g words i u k).length ≤ 1000000 := by
          have a1 := congrArg List.length hm1
          have a2 := congrArg List.length HIS.out
          have a3 := piecesTo_len tm g words i u HLIM.out.1 HLIM.out.2 k
          have a4 := piece_len tm g words i u HLIM.out.1 HLIM.out.2 k
          have a5 := placesGo_len tm g words HLIM.out.1 HLIM.out.2 (words.take i) 0
          have a6 := H16.out
          rw [List.length_map, List.length_append, List.length_map] at a1
          rw [List.length_map, List.length_append, baseGo_len] at a2
          rw [List.length_take] at a5
          omega
         have HAD : Hid (∀ (w3 : World) (G : Nat) (lb : Array Value), Below wr.heap.size wr w3 → (∀ args w, (callFunc G args).run Tryz.prog w = .ok (.enter G args) w) → IterAll w G lb (piece tm g words i u k) w3 →
           Calls Tryz.prog 44 #[.slice A1 n1 c1, .func (.func G) #[] lb] w3 fun e w4 => ∃ v' : Value, (∃ A2 n2 c2, v' = .slice A2 n2 c2) ∧ e = .returned v' ∧ Hid ((∃ is2, Pl13 g wA wC words.length mb ns tm w i n0 q0 (q0 + 1) (q0 + 2) (w4.setCell ⟨w.heap.size + 2, 0, none⟩ v') is2 v' ∧ is2.map ItemH.m = is.map ItemH.m ++ piecesTo tm g words i u (k + 1)) ∧ KeptBut (fun b => (Value.slice A1 n1 c1).ownBlock = some b ∨ b = w.heap.size + 2) wr w4 ∧ ∃ cu, Blk w4 (w.heap.size + 2) 46 #[cu])) := hide (fun w3 G lb hb3 hG hI => by
          have hP3 := hP.belw hb3
          refine (adds44 w _ G lb hG w3 hI hP3.tg.bel.size _ is1 hP3.own hP3.ok hlen1).mono ?_
          rintro e w4 ⟨v', hs, rfl, ho, hm, hok, hkb⟩
          refine ⟨v', (by obtain ⟨A2, c2, h, _⟩ := ho.sl; exact ⟨A2, _, c2, h⟩), rfl, ⟨⟨_, hP3.next hkb ho hok, ?_⟩, (KeptBut.of_below hb3).trans (hkb.mono fun b hb => .inl hb), _, Blk.but hP3.it hkb (fun e => ?_)⟩⟩
          ·rw [List.map_append, hm1, hm, List.append_assoc]; rfl
          ·obtain ⟨_, _, cur, e1⟩ := hP3.own.blk e
           rw [hP3.it.at_] at e1
           simp at e1)
         have hFe := cloF_enters k
         have hcv : cloV w.heap.size mb q0 (q0 + 1) k = .func (.func (cloF k)) #[] (cloC w.heap.size mb q0 (q0 + 1) k) := rfl
         have z0 := hP.at_ hk6
         rw [hcv] at z0
         have zl := hP.bs.lt
         have HITQ := hide hP.it
         have hsp := Nat.lt_of_lt_of_le hk6 (show 6 ≤ 6 by decide)
         clear HP hP hm1 hsl1 hn1 hlen1 hcv
         generalize cloF k = F at *
         generalize cloC w.heap.size mb q0 (q0 + 1) k = caps at *
         go_wp2_with fail
         refine wp_region_held_drew (S := fun w' => KeptBut (fun b => (Value.slice A1 n1 c1).ownBlock = some b ∨ b = w.heap.size + 2) wr w') (by kernel_rfl) (KeptBut.refl _ _).drew (fun hHeld => ?_)
         (try simp only [Act.put, List.setIfInBounds_toArray, List.set_cons_zero, List.set_cons_succ])
         refine wpAnyH_take (i := 1) (v := ?_) rfl (by kernel_rfl) (by kernel_rfl) (by kernel_rfl) (fun _ _ _ h => h) (Or.inl ⟨by rfl, ?_⟩) (by assumption) ?_
         rotate_left
         ·intro w' hSw
          go_simp
          (try go_bits)
          try with_reducible rfl
         (try simp only [Act.put, List.setIfInBounds_toArray, List.set_cons_zero, List.set_cons_succ])
         refine wpAnyH_ready (rs := [0, 2]) (by kernel_rfl) (by simp) (AllReadyH.cons rfl (fun K hK => ?_) (AllReadyH.cons rfl (fun K hK => ?_) AllReadyH.nil))
         ·have m0 := ((HITQ.out).drew).cell (v := .slice A1 n1 c1) 0 rfl
          go_simp
          refine hK.out _ _ hHeld (fun hHeld2 => ?_)
          clear hK K
          (try simp only [Act.put, List.setIfInBounds_toArray, List.set_cons_zero, List.set_cons_succ])
          refine wpAnyH_ready (rs := [2]) (by kernel_rfl) (by simp) (AllReadyH.cons rfl (fun K hK => ?_) AllReadyH.nil)
          go_simp
          refine (HCL.out _ (Below.refl wr.heap.size wr).drew).mono ?_
          rintro e w3 ⟨⟨G, lb, rfl, hG, hI⟩, hb3⟩
          replace hb3 := kcall (Below.refl wr.heap.size wr).drew hb3
          (try go_simp)
          refine hK.out _ _ (KeptBut.of_below hb3) (fun hHeld3 => ?_)
          clear hK K
          (try simp only [Act.put, List.setIfInBounds_toArray, List.set_cons_zero, List.set_cons_succ])
          refine wpAnyH_ready (rs := [3]) (by kernel_rfl) (by simp) (AllReadyH.cons rfl (fun K hK => ?_) AllReadyH.nil)
          go_simp
          refine (HAD.out w3 G lb hb3 hG hI).mono ?_
          rintro e w4 ⟨v', ⟨A2, n2, c2, rfl⟩, rfl, HP4⟩
          have hk4 := HP4.out.2.1
          obtain ⟨cu, hc4⟩ := HP4.out.2.2
          have y0 := hc4.cell (v := cu) 0 rfl
          have yl := hc4.lt
          have yt := hc4.thaw 0
          (try go_simp)
          refine hK.out _ _ hk4 (fun hHeld4 => ?_)
          clear hK K
          (try simp only [Act.put, List.setIfInBounds_toArray, List.set_cons_zero, List.set_cons_succ])
          refine wpAnyH_ready (rs := [4]) (by kernel_rfl) (by simp) (AllReadyH.cons rfl (fun K hK => ?_) AllReadyH.nil)
          go_simp
          refine hK.out _ _ (hk4.set (p := ⟨w.heap.size + 2, 0, none⟩) (.slice A2 n2 c2) (.inl (.inr rfl))) (fun hHeld5 => ?_)
          clear hK K
          (try simp only [Act.put, List.setIfInBounds_toArray, List.set_cons_zero, List.set_cons_succ])
          refine wpAnyH_done (by kernel_rfl) ?_ _
          have HPn := hide HP4.out.1
          clear HP4 hk4 hc4 y0 yl yt hI hG hb3 HCL HAD
          obtain ⟨wn, hwn⟩ : ∃ x, x = w4.setCell ⟨w.heap.size + 2, 0, none⟩ (.slice A2 n2 c2) := ⟨_, rfl⟩
          rw [← hwn] at HPn
          try rw [← hwn]
          clear hwn
          go_wp2
          go_roundw
          case rel => exact ⟨k + 1, by omega, by go_num, hide (by obtain ⟨is2, h1, h2⟩ := HPn.out; exact ⟨is2, _, h1, h2⟩)⟩
          case measure => simp [nI]; omega
         ·go_simp
          refine (HCL.out _ (Below.refl wr.heap.size wr).drew).mono ?_
          rintro e w3 ⟨⟨G, lb, rfl, hG, hI⟩, hb3⟩
          replace hb3 := kcall (Below.refl wr.heap.size wr).drew hb3
          (try go_simp)
          refine hK.out _ _ (KeptBut.of_below hb3) (fun hHeld3 => ?_)
          clear hK K
          (try simp only [Act.put, List.setIfInBounds_toArray, List.set_cons_zero, List.set_cons_succ])
          refine wpAnyH_ready (rs := [0]) (by kernel_rfl) (by simp) (AllReadyH.cons rfl (fun K hK => ?_) AllReadyH.nil)
          have m0 := (HITQ.out.bel hb3).cell (v := .slice A1 n1 c1) 0 rfl
          go_simp
          refine hK.out _ _ (KeptBut.of_below hb3) (fun hHeld2 => ?_)
          clear hK K
          (try simp only [Act.put, List.setIfInBounds_toArray, List.set_cons_zero, List.set_cons_succ])
          refine wpAnyH_ready (rs := [3]) (by kernel_rfl) (by simp) (AllReadyH.cons rfl (fun K hK => ?_) AllReadyH.nil)
          go_simp
          refine (HAD.out w3 G lb hb3 hG hI).mono ?_
          rintro e w4 ⟨v', ⟨A2, n2, c2, rfl⟩, rfl, HP4⟩
          have hk4 := HP4.out.2.1
          obtain ⟨cu, hc4⟩ := HP4.out.2.2
          have y0 := hc4.cell (v := cu) 0 rfl
          have yl := hc4.lt
          have yt := hc4.thaw 0
          (try go_simp)
          refine hK.out _ _ hk4 (fun hHeld4 => ?_)
          clear hK K
          (try simp only [Act.put, List.setIfInBounds_toArray, List.set_cons_zero, List.set_cons_succ])
          refine wpAnyH_ready (rs := [4]) (by kernel_rfl) (by simp) (AllReadyH.cons rfl (fun K hK => ?_) AllReadyH.nil)
          go_simp
          refine hK.out _ _ (hk4.set (p := ⟨w.heap.size + 2, 0, none⟩) (.slice A2 n2 c2) (.inl (.inr rfl))) (fun hHeld5 => ?_)
          clear hK K
          (try simp only [Act.put, List.setIfInBounds_toArray, List.set_cons_zero, List.set_cons_succ])
          refine wpAnyH_done (by kernel_rfl) ?_ _
          have HPn := hide HP4.out.1
          clear HP4 hk4 hc4 y0 yl yt hI hG hb3 HCL HAD
          obtain ⟨wn, hwn⟩ : ∃ x, x = w4.setCell ⟨w.heap.size + 2, 0, none⟩ (.slice A2 n2 c2) := ⟨_, rfl⟩
          rw [← hwn] at HPn
          try rw [← hwn]
          clear hwn
          go_wp2
          go_roundw
          case rel => exact ⟨k + 1, by omega, by go_num, hide (by obtain ⟨is2, h1, h2⟩ := HPn.out; exact ⟨is2, _, h1, h2⟩)⟩
          case measure => simp [nI]; omega
        ·obtain rfl : k = 6 := by omega
         rw [piecesTo_six] at hm1
         have HPn : Hid (Pc13 g wA wC words mb ns tm w wr (i + 1)) := hide ⟨hP.tg, is1, v1, hP.it, hP.own, by
          have hl : (words.take i).length = i := by rw [List.length_take]; omega
          rw [hm1, HIS.out, take_of_get HU.out, placesGo_snoc, hl, Nat.zero_add, List.append_assoc], hP.ok⟩
         clear HP hP hm1
         go_wp2
         go_roundw
         case rel => exact ⟨i + 1, by omega, by go_num, HPn⟩
         case measure => simp [nI]; omega
      ·obtain rfl : i = words.length := by omega
       rw [List.take_length] at his
       have hitems : is.map ItemH.m = itemsL (tmOf (standL lang at_ known l)) g words := by rw [HSTE.out, HTME.out]; exact his
       obtain ⟨A0, cc0, hve, hsl0⟩ := hown.sl
       have hlen := congrArg List.length hitems
       rw [List.length_map] at hlen
       generalize hn0 : is.length = n0 at hve hlen
       subst hve
       have x0 := hib.cell (v := .slice A0 n0 cc0) 0 rfl
       have xl := hib.lt
       have xt := hib.thaw 0
       have HIB := hide hib
       have HIT := hide hitems
       have HLEN := hide hlen
       have HTG := hide htg
       have HOW := hide hown
       have HOKI := hide hok
       clear HP htg hib hown his hok hn0 hsl0 hitems hlen
       by_cases h1024 : n0 ≤ 1024
       ·have g1 : decide ((1024 : Int) < n0) = false := decide_eq_false (by omega)
        go_wp2
        have hO : OwnL itemC 6 68 (wr.setCell ⟨w.heap.size + 2, 0, none⟩ (.slice A0 n0 cc0)) w.heap.size (.slice A0 n0 cc0) is := HOW.out.keep fun b hb => Below.heap_setCell _ _ _ _ (fun e => by
         obtain ⟨_, _, cur, e1⟩ := HOW.out.blk hb
         dsimp only at e
         rw [e, HIB.out.at_] at e1
         simp at e1)
        refine items_good rfl (w.heap.size + 2) rfl rfl (HIB.out.set 0 _ rfl) ⟨_, 0, rfl, fun h => ?_, fun _ h => ?_, fun h => absurd rfl h, fun _ _ => ⟨fun _ => rfl, fun _ => ?_⟩, fun _ => ⟨is, hO, HIT.out, fun x hx => ?_⟩⟩ (HTG.out.bel.setCell (by dsimp only; omega) _)
        ·rw [HPRE.out] at h; cases h
        ·rw [HWB.out] at h; cases h
        ·rw [← HLEN.out]; exact h1024
        ·refine (okItem_ok w.heap.size).other (HOKI.out x hx) (by simp [World.setCell]) fun b hb hd => ?_
         refine Below.heap_setCell _ _ _ _ (fun e => ?_)
         dsimp only at e
         rcases hd with hd | ⟨cs, fz, hd⟩
         ·omega
         ·rw [e, HIB.out.at_] at hd
          simp at hd
       ·have g1 : decide ((1024 : Int) < n0) = true := decide_eq_true (by omega)
        go_wp2
        refine items_bad rfl (w.heap.size + 2) rfl rfl (HIB.out.set 0 _ rfl) ⟨_, 2, rfl, fun _ => by decide, fun _ h => ?_, fun _ => rfl, fun _ _ => ⟨fun h => ?_, fun h => ?_⟩, fun h => ?_⟩ (HTG.out.bel.setCell (by dsimp only; omega) _)
        ·rw [HWB.out] at h; cases h
        ·rw [← HLEN.out] at h; exact absurd h h1024
        ·cases h
        ·cases h
end Go.Proofs.YtkfdafeonhnloaaGreatDoor
