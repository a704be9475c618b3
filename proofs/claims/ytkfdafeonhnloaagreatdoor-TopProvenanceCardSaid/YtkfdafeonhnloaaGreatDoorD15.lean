/-
 chart.begin: the walk.
-/
import Derived.Test.YtkfdafeonhnloaaGreatDoorGM19
import Derived.Test.YtkfdafeonhnloaaGreatDoorA27
import Derived.Test.YtkfdafeonhnloaaGreatDoorGM2
namespace Go.Mine.C
open Go.RowKit Go.Mine
structure ItOk (cats n : Nat) (x : ItemH) : Prop where
 place : 0 ≤ x.from_ ∧ x.from_ < x.until_ ∧ x.until_ ≤ (n : Int) ∧ -1 ≤ x.term ∧ x.term ≤ 1048576
 many : 1 ≤ x.target.length ∧ x.target.length ≤ 4
 words : x.target.all wordB = true
 base : x.cat = -1 → x.until_ = x.from_ + 1 ∧ x.cost = 0 ∧ x.target.length = 1
 other : x.cat ≠ -1 → 0 ≤ x.cat ∧ x.cat < (cats : Int) ∧ 0 ≤ x.cost ∧ x.cost ≤ 1000
structure ItemsOk (cats : Nat) (words : List Str) (w : World) (items : List ItemH) : Prop where
 ok : ∀ x ∈ items, ItOk cats words.length x
 mem : ∀ x ∈ items, ItemOk w x
 base : ∀ (k : Nat) (s : Str), words[k]? = some s → ∃ x, items[k]? = some x ∧ x.cat = -1 ∧ x.from_ = (k : Int) ∧ x.target = [s]
 other : ∀ (k : Nat) (x : ItemH), words.length ≤ k → items[k]? = some x → x.cat ≠ -1
def wsTo (words : List Str) (k : Nat) : Int → List Str := fun i => if 0 ≤ i ∧ i < (k : Int) then (match words[i.toNat]? with | some s => [s] | none => []) else []
theorem wsTo_zero (words : List Str) : wsTo words 0 = fun _ => [] := by
 funext i
 unfold wsTo
 rw [if_neg (by omega)]
theorem wsTo_same {words : List Str} {k : Nat} {s : Str} (h : words[k]? = some s) : wsTo words (k + 1) (k : Int) = [s] := by
 unfold wsTo
 rw [if_pos (by omega), Int.toNat_natCast, h]
theorem wsTo_ne {words : List Str} {k : Nat} {i : Int} (h : i ≠ (k : Int)) : wsTo words (k + 1) i = wsTo words k i := by
 unfold wsTo
 by_cases h1 : 0 ≤ i ∧ i < (k : Int)
 ·rw [if_pos h1, if_pos (by omega)]
 ·rw [if_neg h1, if_neg (by omega)]
theorem wsTo_at {words : List Str} (k : Nat) : wsTo words k (k : Int) = [] := by
 unfold wsTo
 rw [if_neg (by omega)]
structure In46 (mk mw cb : Nat) (g : GramH) (iA : Option Addr) (nI iC : Nat) (nn : Int) (words : List Str) (k : Nat) (w W : World) : Prop where
 bel : Below w.heap.size w W
 gbx : Blk W w.heap.size 26 #[.string g.name, .slice g.cA g.cats.length g.cC, .string g.start, .int .i64 g.startNo, .slice g.eA g.entries.length g.eC, .slice g.rA g.rules.length g.rC]
 chart : Blk W cb 164 (chartA g iA nI iC nn mk mw)
 known : MapG Go.Proofs.Tryz.prog 103 litG okG W mk 0 (fun _ => none) 0
 words_ : ∃ n m, n ≤ k ∧ MapI Go.Proofs.Tryz.prog 3 W mw n m ∧ ∀ i, (wsTo words k i = [] → m i = none) ∧ ∃ A c, (m i).getD (.slice none 0 0) = .slice A (wsTo words k i).length c ∧ Sl sc 1 W A c (wsTo words k i) ∧ ∀ a, A = some a → wsTo words k i ≠ [] → a.block ≠ mk
 low : w.heap.size < mk ∧ mk < mw ∧ mw < cb ∧ cb < W.heap.size
theorem In46.belw {mk mw cb : Nat} {g : GramH} {iA : Option Addr} {nI iC : Nat} {nn : Int} {words : List Str} {k : Nat} {w W W' : World} (h : In46 mk mw cb g iA nI iC nn words k w W) (hb : Below W.heap.size W W') : In46 mk mw cb g iA nI iC nn words k w W' := by
 obtain ⟨n, m, h1, h2, h3⟩ := h.words_
 exact ⟨kcall h.bel hb, h.gbx.bel hb, h.chart.bel hb, h.known.bel hb, ⟨n, m, h1, h2.bel hb, fun i => by obtain ⟨e0, A, c, e1, e2, e3⟩ := h3 i; exact ⟨e0, A, c, e1, e2.bel hb, e3⟩⟩, ⟨h.low.1, h.low.2.1, h.low.2.2.1, Nat.lt_of_lt_of_le h.low.2.2.2 hb.size⟩⟩
end Go.Mine.C
namespace Go.Proofs.YtkfdafeonhnloaaGreatDoor
open Go.RowKit Go.Shelf Go.Mine Go.Mine.C
attribute [local go_sem] Oper.semAt_some
theorem e82 : ∀ args w, (callFunc 82 args).run Tryz.prog w = .ok (.enter 82 args) w := enters_of Tryz.func82 (by kernel_rfl) rfl
theorem Tryz_infoW9 : (Tryz.prog.info? 9).map (fun i => (i.zero, i.size, i.bytes)) = some (some (.string ByteArray.empty), 1, 16) := by kernel_rfl
theorem onesW9 (l : List ByteArray) : ∀ x ∈ l, ∀ u ∈ sc x, u.oneCell' = true := by
 intro x _ u hu
 simp only [sc, List.mem_cons, List.not_mem_nil, or_false] at hu
 subst hu; rfl
set_option maxRecDepth 100000 in
set_option maxHeartbeats 8000000 in
theorem begin46 (g : GramH) (iA : Option Addr) (iC : Nat) (items : List ItemH) (words : List ByteArray) (w : World) (hG : GramOk w g) (hgs : GramS g) (hok : okB g = true) (hI : Sl itemC 6 w iA iC items) (hit : ItemsOk g.cats.length words w items) (hE : Env w) (hn : 1 ≤ words.length ∧ words.length ≤ 16) (hil : items.length ≤ 16384) :
  Calls Tryz.prog 46 #[gramV g, .slice iA items.length iC, .int .i64 words.length] w fun e w' => ∃ mk mw cb, e = .returned (.pointer (some ⟨cb, 0, none⟩)) ∧ In46 mk mw cb g iA items.length iC words.length words words.length w w' := by
 simp only [gramV]
 have HG := hide hG
 have HIS := hide hI
 have HIT := hide hit
 have HE := hide hE
 have hle := hI.le
 have hmx := hI.max
 have hgl := hG.cats.le
 have hgm := hG.cats.max
 have hb0 := kalloc (Below.refl w.heap.size w) (.cells #[.string g.name, .slice g.cA g.cats.length g.cC, .string g.start, .int .i64 g.startNo, .slice g.eA g.entries.length g.eC, .slice g.rA g.rules.length g.rC] 26)
 have K1 := (check31 g _ (hG.bel hb0) hgs (hE.bel hb0))
 simp only [gramV] at K1
 replace K1 := hide K1
 have HB0 := hide hb0
 have HGB := hide (Blk.new w #[.string g.name, .slice g.cA g.cats.length g.cC, .string g.start, .int .i64 g.startNo, .slice g.eA g.entries.length g.eC, .slice g.rA g.rules.length g.rC] 26)
 have HOK := hide hok
 clear hG hI hit hE hb0 hgs hok
 have hmm := @run_makeMap Tryz.prog
 have hn1 := hn.1
 have hn2 := hn.2
 have q1 : decide ((1 : Int) ≤ words.length) = true := decide_eq_true (by omega)
 have q2 : decide ((words.length : Int) ≤ 16) = true := decide_eq_true (by omega)
 have q3 : decide ((items.length : Int) ≤ 16384) = true := decide_eq_true (by omega)
 have KN := hide (fun (er : Int) (w : World) => need81 er w)
 go_enter Tryz.func46, Tryz.ntmps46
 go_wp2_with fail
 refine K1.out.mono ?_
 rintro e w1 ⟨⟨er, rfl, her⟩, hb1⟩
 obtain rfl : er = 0 := her.2 HOK.out
 have HB1 := hide (kcall HB0.out hb1)
 have HG1 := hide (HGB.out.bel hb1)
 clear hb1 her K1 HB0 HGB
 have c0 := HG1.out.cell (v := .string g.name) 0 rfl
 have c1 := HG1.out.cell (v := .slice g.cA g.cats.length g.cC) 1 rfl
 have c2 := HG1.out.cell (v := .string g.start) 2 rfl
 have c3 := HG1.out.cell (v := .int .i64 g.startNo) 3 rfl
 have c4 := HG1.out.cell (v := .slice g.eA g.entries.length g.eC) 4 rfl
 have c5 := HG1.out.cell (v := .slice g.rA g.rules.length g.rC) 5 rfl
 have cl := HG1.out.lt
 go_wp2_with fail
 refine (KN.out _ _).mono ?_
 rintro e w2 ⟨rfl, rfl⟩
 go_wp2_with fail
 refine (KN.out _ _).mono ?_
 rintro e w2 ⟨rfl, rfl⟩
 go_wp2_with fail
 refine (KN.out _ _).mono ?_
 rintro e w2 ⟨rfl, rfl⟩
 go_wp2_with fail
 clear hmm q1 q2 q3 c0 c1 c2 c3 c4 c5 cl
 have hsz : w.heap.size < w1.heap.size := HG1.out.lt
 have HIN0 : Hid (In46 w1.heap.size (w1.heap.size + 1) (w1.heap.size + 1 + 1) g iA items.length iC words.length words 0 w (((w1.alloc (.map #[] 0)).alloc (.map #[] 0)).alloc (.cells (chartA g iA items.length iC words.length w1.heap.size (w1.heap.size + 1)) 164))) := hide
  ⟨kalloc (kalloc (kalloc HB1.out _) _) _, ((HG1.out.alloc _).alloc _).alloc _, by have := Blk.new2 w1 (.map #[] 0) (.map #[] 0) (chartA g iA items.length iC words.length w1.heap.size (w1.heap.size + 1)) 164; exact this,
   ((MapG.made w1 Tryz.prog 103 litG okG).alloc _).alloc _, ⟨0, fun _ => none, Nat.le_refl _, by have := (MapI.made (w1.alloc (.map #[] 0)) Tryz.prog 3).alloc (.cells (chartA g iA items.length iC words.length w1.heap.size (w1.heap.size + 1)) 164); rw [World.size_alloc] at this; exact this, fun i => ⟨fun _ => rfl, none, 0, by rw [wsTo_zero]; rfl, by rw [wsTo_zero]; exact Sl.nil (by omega), fun a ha => by cases ha⟩⟩, by simp; omega⟩
 obtain ⟨mk, hmk⟩ : ∃ mk, mk = w1.heap.size := ⟨_, rfl⟩
 obtain ⟨mw, hmw⟩ : ∃ mw, mw = w1.heap.size + 1 := ⟨_, rfl⟩
 obtain ⟨cb, hcb⟩ : ∃ cb, cb = w1.heap.size + 1 + 1 := ⟨_, rfl⟩
 obtain ⟨W2, hW2⟩ : ∃ W2, W2 = (((w1.alloc (.map #[] 0)).alloc (.map #[] 0)).alloc (.cells (chartA g iA items.length iC words.length w1.heap.size (w1.heap.size + 1)) 164)) := ⟨_, rfl⟩
 rw [← hW2, ← hcb, ← hmw, ← hmk] at HIN0
 simp only [chartA] at hW2
 rw [← hW2, ← hcb, ← hmw, ← hmk]
 clear hW2 hmk hmw hcb HB1 HG1 hsz
 go_loopw [39] (fun i wr => ∃ k : Nat, k ≤ items.length ∧ i = .int .i64 k ∧ Hid (In46 mk mw cb g iA items.length iC words.length words (min k words.length) w wr)) (fun i _ => items.length - (nI i).toNat)
 case atStart => exact ⟨0, Nat.zero_le _, rfl, by simpa using HIN0⟩
 case round =>
  clear HIN0
  obtain ⟨k, hk, rfl, HIN⟩ := hrel
  by_cases hlt : k < items.length
  ·obtain ⟨x, b, off, hx, hdr, hA, hbw, c0, c1, c2, c3, c4, c5⟩ := item_at (HIS.out.bel HIN.out.bel) hlt
   have hmem := List.mem_of_getElem? hx
   have hox := HIT.out.ok x hmem
   have hmx' := HIT.out.mem x hmem
   have hbase := fun s hs => HIT.out.base k s hs
   have hoth := fun h => HIT.out.other k x h hx
   subst hA
   have HB3 := hide (kalloc (Below.refl wr.heap.size wr) (.cells #[.int .i64 x.cat, .int .i64 x.from_, .int .i64 x.until_, .int .i64 x.cost, .slice x.tA x.target.length x.tC, .int .i64 x.term] 68))
   have K83 := contains83 82 #[] e82 (fun s => !wordB s) x.tA x.tC x.target (wr.alloc (.cells #[.int .i64 x.cat, .int .i64 x.from_, .int .i64 x.until_, .int .i64 x.cost, .slice x.tA x.target.length x.tC, .int .i64 x.term] 68)) ((hmx'.bel HIN.out.bel).bel HB3.out) (fun y _ w' hb => by simpa using odd82 y w' (((HE.out.bel HIN.out.bel).bel HB3.out).bel hb))
   rw [any_wrong, hox.words] at K83
   replace K83 := hide K83
   have HXB0 := hide (Blk.new wr #[.int .i64 x.cat, .int .i64 x.from_, .int .i64 x.until_, .int .i64 x.cost, .slice x.tA x.target.length x.tC, .int .i64 x.term] 68)
   obtain ⟨p1, p2, p3, p4, p5⟩ := hox.place
   obtain ⟨p6, p7⟩ := hox.many
   have q1 : decide ((0 : Int) ≤ x.from_) = true := decide_eq_true p1
   have q2 : decide (x.from_ < x.until_) = true := decide_eq_true p2
   have q3 : decide (x.until_ ≤ (words.length : Int)) = true := decide_eq_true p3
   have q4 : decide ((-1 : Int) ≤ x.term) = true := decide_eq_true p4
   have q5 : decide (x.term ≤ 1048576) = true := decide_eq_true p5
   have q6 : decide ((1 : Int) ≤ x.target.length) = true := decide_eq_true (by omega)
   have q7 : decide ((x.target.length : Int) ≤ 4) = true := decide_eq_true (by omega)
   have HOX := hide hox
   have HMX := hide hmx'
   have HBS := hide hbase
   have HOT := hide hoth
   have HXE := hide hx
   have HP := hide (show 0 ≤ x.from_ ∧ x.from_ < x.until_ ∧ x.until_ ≤ (words.length : Int) from ⟨p1, p2, p3⟩)
   clear p1 p2 p3 p4 p5 p6 p7 hox hmx' hbase hoth hx hdr
   go_wp2_with fail
   refine K83.out.mono ?_
   rintro e w4 ⟨rfl, hb4⟩
   have HXB := hide (HXB0.out.bel hb4)
   have HB4 := hide (kcall HB3.out hb4)
   clear K83 HB3 HXB0 hb4 q1 q2 q3 q4 q5 q6 q7 c0 c1 c2 c3 c4 c5
   have d0 := HXB.out.cell (v := .int .i64 x.cat) 0 rfl
   have d1 := HXB.out.cell (v := .int .i64 x.from_) 1 rfl
   have d2 := HXB.out.cell (v := .int .i64 x.until_) 2 rfl
   have d3 := HXB.out.cell (v := .int .i64 x.cost) 3 rfl
   have d4 := HXB.out.cell (v := .slice x.tA x.target.length x.tC) 4 rfl
   have dl := HXB.out.lt
   go_wp2_with fail
   refine (KN.out _ _).mono ?_
   rintro e w5 ⟨rfl, rfl⟩
   by_cases hcat : x.cat = -1
   ·have hkw : k < words.length := by
     rcases Nat.lt_or_ge k words.length with h | h
     ·exact h
     ·exact absurd hcat (HOT.out h)
    obtain ⟨s, hs⟩ : ∃ s, words[k]? = some s := ⟨_, List.getElem?_eq_getElem hkw⟩
    obtain ⟨x', hx', _, hfr, htg⟩ := HBS.out s hs
    rw [HXE.out] at hx'
    cases hx'
    obtain ⟨b1, b2, b3⟩ := HOX.out.base hcat
    have hmt := HMX.out
    obtain ⟨cat, from_, until_, cost, tA, tC, target, term⟩ := x
    simp only at hcat hfr htg b1 b2 b3 hmt d0 d1 d2 d3 d4 HXB HB4
    unfold ItemOk at hmt
    simp only at hmt
    subst hcat hfr htg b2
    subst b1
    have hmin : min k words.length = k := by omega
    have hmin2 : min (k + 1) words.length = k + 1 := by omega
    rw [hmin] at HIN
    have HS := hide hs
    obtain ⟨tb, tof, hta, htb, htc⟩ := hmt.addr (by simp)
    subst hta
    have HIN4 := hide (HIN.out.belw HB4.out)
    have hkw' := hkw
    have HIW := hide HIN4.out.bel
    have HWR := hide (show mw < wr.heap.size by have := HIN.out.low; omega)
    clear HIN HOX HMX HBS HOT HXE HP hs hmin hkw hbw
    rw [List.length_singleton] at HXB d4
    go_wp2_with fail
    refine (KN.out _ _).mono ?_
    rintro e w5 ⟨rfl, rfl⟩
    obtain ⟨n, m, hn1, hm1, hm2⟩ := HIN4.out.words_
    have hlow := HIN4.out.low
    have hmk := (hm2 (k : Int)).1 (wsTo_at k)
    have hcbw : ¬ (cb = mw) := by omega
    have hxbw : ¬ (wr.heap.size = mw) := by have := HWR.out; omega
    have htc0 := htc 0 s rfl 0 (.string s) rfl
    have htb4 : w4.cell? ⟨tb, tof, none⟩ = some (.string s) := by
     have h1 := HIW.out.cell (p := ⟨tb, tof, none⟩) htb
     rw [h1]
     simpa using htc0
    have htbw : tb ≠ mw := by omega
    have HTC := hide (show ∀ w', KeptBut (· = mw) w4 w' → w'.cell? ⟨tb, tof, none⟩ = some (.string s) from fun w' hw' => by
     have h1 := hw'.keep tb (Nat.lt_of_lt_of_le htb HIN4.out.bel.size) htbw
     simp only [World.cell?, h1] at htb4 ⊢
     exact htb4)
    have HLK : Hid (∀ w', Below w4.heap.size w4 w' → (Instr.lookup 162 (.map (some mw)) (.int .i64 k) false).run Tryz.prog w' = .ok (.slice none 0 0) w') := hide (fun w' hw' => by
     have := (hm1.bel hw').look Tryz.underlying3 Tryz.underlying162 (Tryz.zeroValue22 w') (k := (k : Int)) (by unfold I64; omega)
     rw [hmk] at this
     exact this)
    obtain ⟨i5, hi5, hz50, hz51, hz52⟩ := info_parts Tryz_infoW9
    have hwd : (w4.drew.alloc (.cells #[.string s] 9)).heap.size = w4.heap.size + 1 := World.size_alloc w4.drew _
    obtain ⟨v9, w9, hrun, hO9, hg9, hat9⟩ := run_extend (P := Tryz.prog) (w := w4.drew.alloc (.cells #[.string s] 9)) (f := sc) (t := 22) (ty := 22) (base := w4.heap.size) (l1 := []) (l2 := [s]) Tryz.underlying22 hi5 hz50 hz51 hz52 rfl (by decide) (OwnL.nil _ _ _ _ _) (Sl.one (c := 1) (Blk.new w4.drew #[.string s] 9) rfl rfl (by decide) (by decide)) (onesW9 [s]) (by simp [maxLen]) (by simp) (by rw [hwd]; omega)
    obtain ⟨A9, c9, hv9, hsl9⟩ := hO9.sl
    replace hv9 : v9 = .slice A9 1 c9 := hv9
    subst hv9
    rw [hwd] at hat9
    have hb9 : Below w4.heap.size w4 w9 := by
     have h1 := kalloc (Below.refl w4.heap.size w4).drew (.cells #[.string s] 9)
     exact Below.grown h1 hg9 (by rw [hwd]; omega) (fun j hj => by simp [Value.ownBlock] at hj)
    obtain ⟨w10, e10, hM10, hg10⟩ := (hm1.bel hb9).put Tryz.underlying3 Tryz.underlying162 (by unfold maxLen; omega) (k := (k : Int)) (by unfold I64; omega) (.slice A9 1 c9)
    have HRUN := hide hrun
    have HS1 : Hid (KeptBut (· = mw) w4 (w4.drew.alloc (.cells #[.string s] 9))) := hide ((KeptBut.refl _ _).drew.alloc _)
    have HS9 : Hid (KeptBut (· = mw) w4 w9) := hide (KeptBut.of_below hb9)
    have HS10 : Hid (KeptBut (· = mw) w4 w10) := hide (HS9.out.grown hg10 (fun j hj => by cases hj; exact .inl rfl))
    have HCH := hide HIN4.out.chart
    have hrow9 : ∀ a, A9 = some a → w4.heap.size ≤ a.block := fun a ha => (hO9.blk (g := a.block) (by rw [ha]; rfl)).1
    have HIN : Hid (In46 mk mw cb g (some ⟨b, off, none⟩) items.length iC words.length words (min (k + 1) words.length) w w10) := hide (by
     rw [hmin2]
     refine ⟨Below.grown (kcall HIN4.out.bel hb9) hg10 (kcall HIN4.out.bel hb9).size (fun j hj => by cases hj; omega), Blk.but HIN4.out.gbx HS10.out (by omega), Blk.but HCH.out HS10.out hcbw, HIN4.out.known.heap (HS10.out.keep mk HIN4.out.known.lt (by omega)), ⟨n + 1, _, by omega, hM10, fun i => ?_⟩, ⟨hlow.1, hlow.2.1, hlow.2.2.1, Nat.lt_of_lt_of_le hlow.2.2.2 HS10.out.size⟩⟩
     by_cases hik : i = (k : Int)
     ·subst hik
      rw [wsTo_same HS.out, upd_same]
      refine ⟨fun h => by simp at h, A9, c9, rfl, hsl9.keep (fun a ha _ hlt => hg10.block _ hlt (fun e => by have := hrow9 a ha; have := Option.some.inj e; omega)) hg10.size, fun a ha _ => by have := hrow9 a ha; omega⟩
     ·rw [wsTo_ne hik, upd_other _ _ hik]
      obtain ⟨e0, A, c, e1, e2, e3⟩ := hm2 i
      exact ⟨e0, A, c, e1, e2.keep (fun a ha hn hlt => HS10.out.keep _ hlt (fun e => by
       obtain ⟨rb, ro, hra, hrb, hrc⟩ := e2.cells hn
       rw [ha] at hra
       cases hra
       obtain ⟨y, ys, hy⟩ := List.exists_cons_of_ne_nil hn
       have h1 := hrc 0 (.string y) (by rw [hy]; rfl)
       exact map_apart hm1 h1 e)) HS10.out.size, e3⟩)
    clear hrun hO9 hg9 hat9 hsl9 hM10 hg10 hb9 hrow9 hm1 hm2 hmk htc htb4 htc0 HIN4 hi5 hz50 hz51 hz52 hwd hmt HIW HWR d0 d1 d2 d3 d4 dl HB4
    go_wp2_with fail
    refine wp_region_held_drew (S := fun w' => KeptBut (· = mw) w4 w') (by kernel_rfl) (KeptBut.refl _ _).drew (fun hHeld => ?_)
    (try simp only [Act.put, List.setIfInBounds_toArray, List.set_cons_zero, List.set_cons_succ])
    refine wpAnyH_take (i := 0) (v := ?_) rfl (by kernel_rfl) (by kernel_rfl) (by kernel_rfl) (fun _ _ _ h => h) (Or.inl ⟨by rfl, ?_⟩) (by assumption) ?_
    rotate_left
    ·intro w' hSw
     go_simp
     (try go_bits)
     try with_reducible rfl
    (try simp only [Act.put, List.setIfInBounds_toArray, List.set_cons_zero, List.set_cons_succ])
    refine wpAnyH_take (i := 1) (v := ?_) rfl (by kernel_rfl) (by kernel_rfl) (by kernel_rfl) (fun _ _ _ h => h) (Or.inl ⟨by rfl, ?_⟩) (by assumption) ?_
    rotate_left
    ·intro w' hSw
     go_simp
     (try go_bits)
     try with_reducible rfl
    (try simp only [Act.put, List.setIfInBounds_toArray, List.set_cons_zero, List.set_cons_succ])
    refine wpAnyH_take (i := 2) (v := ?_) rfl (by kernel_rfl) (by kernel_rfl) (by kernel_rfl) (fun _ _ _ h => h) (Or.inl ⟨by rfl, ?_⟩) (by assumption) ?_
    rotate_left
    ·intro w' hSw
     go_simp
     (try go_bits)
     try with_reducible rfl
    (try simp only [Act.put, List.setIfInBounds_toArray, List.set_cons_zero, List.set_cons_succ])
    refine wpAnyH_take (i := 3) (v := ?_) rfl (by kernel_rfl) (by kernel_rfl) (by kernel_rfl) (fun _ _ _ h => h) (Or.inl ⟨by rfl, ?_⟩) (by assumption) ?_
    rotate_left
    ·intro w' hSw
     have m0 := (Blk.but HCH.out hSw hcbw).cell (v := .map (some mw)) 9 rfl
     go_simp
     (try go_bits)
     try with_reducible rfl
    (try simp only [Act.put, List.setIfInBounds_toArray, List.set_cons_zero, List.set_cons_succ])
    refine wpAnyH_take (i := 4) (v := ?_) rfl (by kernel_rfl) (by kernel_rfl) (by kernel_rfl) (fun _ _ _ h => h) (Or.inl ⟨by rfl, ?_⟩) (by assumption) ?_
    rotate_left
    ·intro w' hSw
     go_simp
     (try go_bits)
     try with_reducible rfl
    (try simp only [Act.put, List.setIfInBounds_toArray, List.set_cons_zero, List.set_cons_succ])
    refine wpAnyH_take (i := 5) (v := ?_) rfl (by kernel_rfl) (by kernel_rfl) (by kernel_rfl) (fun _ _ _ h => h) (Or.inl ⟨by rfl, ?_⟩) (by assumption) ?_
    rotate_left
    ·intro w' hSw
     have m0 := (Blk.but HXB.out hSw hxbw).cell (v := .int .i64 k) 1 rfl
     go_simp
     (try go_bits)
     try with_reducible rfl
    (try simp only [Act.put, List.setIfInBounds_toArray, List.set_cons_zero, List.set_cons_succ])
    refine wpAnyH_take (i := 6) (v := ?_) rfl (by kernel_rfl) (by kernel_rfl) (by kernel_rfl) (fun _ _ _ h => h) (Or.inl ⟨by rfl, ?_⟩) (by assumption) ?_
    rotate_left
    ·intro w' hSw
     go_simp
     (try go_bits)
     try with_reducible rfl
    (try simp only [Act.put, List.setIfInBounds_toArray, List.set_cons_zero, List.set_cons_succ])
    refine wpAnyH_take (i := 7) (v := ?_) rfl (by kernel_rfl) (by kernel_rfl) (by kernel_rfl) (fun _ _ _ h => h) (Or.inl ⟨by rfl, ?_⟩) (by assumption) ?_
    rotate_left
    ·intro w' hSw
     go_simp
     (try go_bits)
     try with_reducible rfl
    (try simp only [Act.put, List.setIfInBounds_toArray, List.set_cons_zero, List.set_cons_succ])
    refine wpAnyH_take (i := 8) (v := ?_) rfl (by kernel_rfl) (by kernel_rfl) (by kernel_rfl) (fun _ _ _ h => h) (Or.inl ⟨by rfl, ?_⟩) (by assumption) ?_
    rotate_left
    ·intro w' hSw
     go_simp
     (try go_bits)
     try with_reducible rfl
    (try simp only [Act.put, List.setIfInBounds_toArray, List.set_cons_zero, List.set_cons_succ])
    refine wpAnyH_take (i := 9) (v := ?_) rfl (by kernel_rfl) (by kernel_rfl) (by kernel_rfl) (fun _ _ _ h => h) (Or.inl ⟨by rfl, ?_⟩) (by assumption) ?_
    rotate_left
    ·intro w' hSw
     have m0 := (Blk.but HCH.out hSw hcbw).cell (v := .map (some mw)) 9 rfl
     go_simp
     (try go_bits)
     try with_reducible rfl
    (try simp only [Act.put, List.setIfInBounds_toArray, List.set_cons_zero, List.set_cons_succ])
    refine wpAnyH_take (i := 10) (v := ?_) rfl (by kernel_rfl) (by kernel_rfl) (by kernel_rfl) (fun _ _ _ h => h) (Or.inl ⟨by rfl, ?_⟩) (by assumption) ?_
    rotate_left
    ·intro w' hSw
     go_simp
     (try go_bits)
     try with_reducible rfl
    (try simp only [Act.put, List.setIfInBounds_toArray, List.set_cons_zero, List.set_cons_succ])
    refine wpAnyH_take (i := 11) (v := ?_) rfl (by kernel_rfl) (by kernel_rfl) (by kernel_rfl) (fun _ _ _ h => h) (Or.inl ⟨by rfl, ?_⟩) (by assumption) ?_
    rotate_left
    ·intro w' hSw
     have m0 := (Blk.but HXB.out hSw hxbw).cell (v := .int .i64 k) 1 rfl
     go_simp
     (try go_bits)
     try with_reducible rfl
    (try simp only [Act.put, List.setIfInBounds_toArray, List.set_cons_zero, List.set_cons_succ])
    refine wpAnyH_take (i := 13) (v := ?_) rfl (by kernel_rfl) (by kernel_rfl) (by kernel_rfl) (fun _ _ _ h => h) (Or.inl ⟨by rfl, ?_⟩) (by assumption) ?_
    rotate_left
    ·intro w' hSw
     go_simp
     (try go_bits)
     try with_reducible rfl
    (try simp only [Act.put, List.setIfInBounds_toArray, List.set_cons_zero, List.set_cons_succ])
    refine wpAnyH_take (i := 14) (v := ?_) rfl (by kernel_rfl) (by kernel_rfl) (by kernel_rfl) (fun _ _ _ h => h) (Or.inl ⟨by rfl, ?_⟩) (by assumption) ?_
    rotate_left
    ·intro w' hSw
     have m0 := (Blk.but HXB.out hSw hxbw).cell (v := .slice (some ⟨tb, tof, none⟩) 1 tC) 4 rfl
     go_simp
     (try go_bits)
     try with_reducible rfl
    (try simp only [Act.put, List.setIfInBounds_toArray, List.set_cons_zero, List.set_cons_succ])
    refine wpAnyH_take (i := 15) (v := ?_) rfl (by kernel_rfl) (by kernel_rfl) (by kernel_rfl) (fun _ _ _ h => h) (Or.inl ⟨by rfl, ?_⟩) (by assumption) ?_
    rotate_left
    ·intro w' hSw
     go_simp
     (try go_bits)
     try with_reducible rfl
    (try simp only [Act.put, List.setIfInBounds_toArray, List.set_cons_zero, List.set_cons_succ])
    refine wpAnyH_take (i := 16) (v := ?_) rfl (by kernel_rfl) (by kernel_rfl) (by kernel_rfl) (fun _ _ _ h => h) (Or.inl ⟨by rfl, ?_⟩) (by assumption) ?_
    rotate_left
    ·intro w' hSw
     have m0 := HTC.out w' hSw
     go_simp
     (try go_bits)
     try with_reducible rfl
    (try simp only [Act.put, List.setIfInBounds_toArray, List.set_cons_zero, List.set_cons_succ])
    refine wpAnyH_ready (rs := [12, 17]) (by kernel_rfl) (by simp) (AllReadyH.cons rfl (fun K hK => ?_) (AllReadyH.cons rfl (fun K hK => ?_) AllReadyH.nil))
    ·have e12 := HLK.out _ (Below.refl w4.heap.size w4).drew
     go_simp
     clear e12
     refine hK.out _ _ hHeld (fun hHeld2 => ?_)
     clear hK K
     (try simp only [Act.put, List.setIfInBounds_toArray, List.set_cons_zero, List.set_cons_succ])
     refine wpAnyH_ready (rs := [17]) (by kernel_rfl) (by simp) (AllReadyH.cons rfl (fun K hK => ?_) AllReadyH.nil)
     go_simp
     refine hK.out _ _ HS1.out (fun hHeld3 => ?_)
     clear hK K
     (try simp only [Act.put, List.setIfInBounds_toArray, List.set_cons_zero, List.set_cons_succ])
     refine wpAnyH_ready (rs := [18]) (by kernel_rfl) (by simp) (AllReadyH.cons rfl (fun K hK => ?_) AllReadyH.nil)
     refine step_append rfl (.tmp 123) (.tmp 128) 22 rfl rfl rfl (G := fun v' w' => v' = .slice A9 1 c9 ∧ w' = w9) ⟨.slice A9 1 c9, w9, HRUN.out, rfl, rfl⟩ ?_
     rintro _ _ ⟨rfl, rfl⟩
     refine hK.out _ _ HS9.out (fun hHeld9 => ?_)
     clear hK K
     (try simp only [Act.put, List.setIfInBounds_toArray, List.set_cons_zero, List.set_cons_succ])
     refine wpAnyH_ready (rs := [19]) (by kernel_rfl) (by simp) (AllReadyH.cons rfl (fun K hK => ?_) AllReadyH.nil)
     go_simp
     refine hK.out _ _ HS10.out (fun hHeld10 => ?_)
     clear hK K
     (try simp only [Act.put, List.setIfInBounds_toArray, List.set_cons_zero, List.set_cons_succ])
     refine wpAnyH_done (by kernel_rfl) ?_ _
     clear e10
     go_wp2
     go_roundw
     case rel => exact ⟨k + 1, by omega, by go_num, HIN⟩
     case measure => simp [nI]; omega
    ·go_simp
     refine hK.out _ _ HS1.out (fun hHeld2 => ?_)
     clear hK K
     (try simp only [Act.put, List.setIfInBounds_toArray, List.set_cons_zero, List.set_cons_succ])
     refine wpAnyH_ready (rs := [12]) (by kernel_rfl) (by simp) (AllReadyH.cons rfl (fun K hK => ?_) AllReadyH.nil)
     have e12 := HLK.out _ (kalloc (Below.refl w4.heap.size w4) (.cells #[.string s] 9)).drew
     go_simp
     clear e12
     refine hK.out _ _ HS1.out (fun hHeld3 => ?_)
     clear hK K
     (try simp only [Act.put, List.setIfInBounds_toArray, List.set_cons_zero, List.set_cons_succ])
     refine wpAnyH_ready (rs := [18]) (by kernel_rfl) (by simp) (AllReadyH.cons rfl (fun K hK => ?_) AllReadyH.nil)
     refine step_append rfl (.tmp 123) (.tmp 128) 22 rfl rfl rfl (G := fun v' w' => v' = .slice A9 1 c9 ∧ w' = w9) ⟨.slice A9 1 c9, w9, HRUN.out, rfl, rfl⟩ ?_
     rintro _ _ ⟨rfl, rfl⟩
     refine hK.out _ _ HS9.out (fun hHeld9 => ?_)
     clear hK K
     (try simp only [Act.put, List.setIfInBounds_toArray, List.set_cons_zero, List.set_cons_succ])
     refine wpAnyH_ready (rs := [19]) (by kernel_rfl) (by simp) (AllReadyH.cons rfl (fun K hK => ?_) AllReadyH.nil)
     go_simp
     refine hK.out _ _ HS10.out (fun hHeld10 => ?_)
     clear hK K
     (try simp only [Act.put, List.setIfInBounds_toArray, List.set_cons_zero, List.set_cons_succ])
     refine wpAnyH_done (by kernel_rfl) ?_ _
     clear e10
     go_wp2
     go_roundw
     case rel => exact ⟨k + 1, by omega, by go_num, HIN⟩
     case measure => simp [nI]; omega
   ·have g0 : (x.cat == -1) = false := by simpa using hcat
    obtain ⟨o1, o2, o3, o4⟩ := HOX.out.other hcat
    have q1 : decide ((0 : Int) ≤ x.cat) = true := decide_eq_true o1
    have q2 : decide (x.cat < (g.cats.length : Int)) = true := decide_eq_true o2
    have q3 : decide ((0 : Int) ≤ x.cost) = true := decide_eq_true o3
    have q4 : decide (x.cost ≤ 1000) = true := decide_eq_true o4
    have hkn : words.length ≤ k := by
     rcases Nat.lt_or_ge k words.length with h | h
     ·obtain ⟨s, hs⟩ : ∃ s, words[k]? = some s := ⟨_, List.getElem?_eq_getElem h⟩
      obtain ⟨x', hx', hc', _⟩ := HBS.out s hs
      rw [HXE.out] at hx'
      cases hx'
      exact absurd hc' hcat
     ·exact h
    have hmin : min (k + 1) words.length = min k words.length := by omega
    have HIN2 : Hid (In46 mk mw cb g (some ⟨b, off, none⟩) items.length iC words.length words (min (k + 1) words.length) w w4) := hide (by
     rw [hmin]
     exact HIN.out.belw HB4.out)
    have gc := (HIN.out.belw HB4.out).gbx.cell (v := .slice g.cA g.cats.length g.cC) 1 rfl
    have gl := (HIN.out.belw HB4.out).gbx.lt
    clear o1 o2 o3 o4 hcat hmin HIN HB4 HXB HOX HMX HBS HOT HXE HP
    go_wp2_with fail
    refine (KN.out _ _).mono ?_
    rintro e w5 ⟨rfl, rfl⟩
    clear q1 q2 q3 q4 d0 d1 d2 d3 d4 dl gc gl
    go_wp2
    go_roundw
    case rel => exact ⟨k + 1, by omega, by go_num, HIN2⟩
    case measure => simp [nI]; omega
  ·obtain rfl : k = items.length := by omega
   have hwi : words.length ≤ items.length := by
    rcases Nat.lt_or_ge items.length words.length with h | h
    ·obtain ⟨s, hs⟩ : ∃ s, words[items.length]? = some s := ⟨_, List.getElem?_eq_getElem h⟩
     obtain ⟨x', hx', _⟩ := HIT.out.base _ s hs
     rw [List.getElem?_eq_none (Nat.le_refl _)] at hx'
     cases hx'
    ·exact h
   rw [Nat.min_eq_right hwi] at HIN
   go_wp2
   refine bodyPost_ret (v := .pointer (some ⟨cb, 0, none⟩)) (by simp [results, Tryz.results46, go_sem]) rfl ?_
   exact ⟨mk, mw, cb, rfl, HIN.out⟩
end Go.Proofs.YtkfdafeonhnloaaGreatDoor
