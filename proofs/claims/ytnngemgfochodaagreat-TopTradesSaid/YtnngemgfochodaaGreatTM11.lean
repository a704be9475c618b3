/-
  queue.work: what stands while the iterator works.
  queue.work: the iterator yields the pieces of the run.
-/
import Derived.Test.YtnngemgfochodaaGreatTM10
import Derived.Test.YtnngemgfochodaaGreatJKeys
import Derived.Test.YtnngemgfochodaaGreatTM7
import Derived.Test.YtnngemgfochodaaGreatPushIn
import Derived.Test.YtnngemgfochodaaGreatMapIns
namespace Go.Proofs.YtnngemgfochodaaGreat.J
open Go.Proofs.YtnngemgfochodaaGreat
open Go.RowKit Go.Mine Go.Mine.Q
attribute [local go_sem] Oper.semAt_some

theorem Sl.heap {α : Type} {f : α → List Value} {sz : Nat} {w w' : World} {A : Option Addr} {c : Nat} {l : List α} (h : Sl f sz w A c l) (hk : ∀ x, x < w.heap.size → w'.heap[x]? = w.heap[x]?) (hz : w.heap.size ≤ w'.heap.size) : Sl f sz w' A c l :=
  ⟨h.le, h.max, h.size, fun hn => by
    obtain ⟨b, off, e, hbw, hc⟩ := h.cells hn
    exact ⟨b, off, e, Nat.lt_of_lt_of_le hbw hz, fun i v hv => (World.cell?_of_block (a := ⟨b, off + i, none⟩) (hk b hbw)).trans (hc i v hv)⟩⟩
def readyM (l : List Jb) : List Int := 0 :: l.map (·.ready)
theorem readyM_snoc (l : List Jb) (x : Jb) : readyM l ++ [x.ready] = readyM (l ++ [x]) := by simp [readyM]
theorem readyM_mem (l : List Jb) (k : Int) : k ∈ readyM l ↔ k = 0 ∨ ∃ x ∈ l, x.ready = k := by simp [readyM]
/-- the tasks laid so far -/
structure Laid (w : World) (B : Nat) (l : List Jb) (ps : List Nat) (val : Nat → Tk) : Prop where
  len : ps.length = l.length
  val_ : ps.map val = Go.Mine.Q.start l
  nodup : ps.Nodup
  lo : ∀ a ∈ ps, B ≤ a
  tks : Tks w ps val
theorem Laid.nil (w : World) (B : Nat) (val : Nat → Tk) : Laid w B [] [] val := ⟨rfl, rfl, List.nodup_nil, by simp, by intro a ha; simp at ha⟩
theorem Laid.snoc {w w' : World} {B : Nat} {l : List Jb} {ps : List Nat} {val : Nat → Tk} (h : Laid w B l ps val) {x : Jb} {g : Nat} (hk : ∀ a ∈ ps, ∀ cs, Blk w a 110 cs → Blk w' a 110 cs) (hg : Blk w' g 110 (tkC ⟨x, x.need⟩)) (hB : B ≤ g) (hn : w.heap.size ≤ g) :
    Laid w' B (l ++ [x]) (ps ++ [g]) (fun a => if a = g then ⟨x, x.need⟩ else val a) := by
  have hne : ∀ a ∈ ps, a ≠ g := fun a ha e => by have := (h.tks a ha).lt; omega
  refine ⟨by simp [h.len], ?_, ?_, ?_, ?_⟩
  · have h1 : ps.map (fun a => if a = g then (⟨x, x.need⟩ : Tk) else val a) = ps.map val := List.map_congr_left fun a ha => if_neg (hne a ha)
    rw [List.map_append, h1, h.val_]
    simp [Go.Mine.Q.start]
  · refine List.nodup_append.2 ⟨h.nodup, by simp, fun a ha b hb => ?_⟩
    simp at hb; subst hb; exact hne a ha
  · intro a ha
    rcases List.mem_append.1 ha with ha | ha
    · exact h.lo a ha
    · simp at ha; subst ha; exact hB
  · intro a ha
    rcases List.mem_append.1 ha with ha | ha
    · show Blk w' a 110 (tkC (if a = g then _ else _))
      rw [if_neg (hne a ha)]
      exact hk a ha _ (h.tks a ha)
    · simp at ha; subst ha
      show Blk w' a 110 (tkC (if a = a then _ else _))
      rw [if_pos rfl]; exact hg
/-- what stands while the iterator works -/
structure Ctx (J : Nat → (Nat → Prop) → World → Prop) (W W4 : World) (ps : List Nat) (j : Nat) (O : Nat → Prop) (val : Nat → Tk) (wr : World) : Prop where
  j_ : J j O wr
  os : ∀ x, O x → W.heap.size ≤ x ∧ x < wr.heap.size
  mine : ∀ x, W.heap.size ≤ x → x < W4.heap.size → O x
  sz : W.heap.size ≤ W4.heap.size ∧ W4.heap.size ≤ wr.heap.size
  keep : ∀ x, W.heap.size ≤ x → x < W4.heap.size → x ∉ ps → wr.heap[x]? = W4.heap[x]?
  tks : Tks wr ps val
  psin : ∀ x ∈ ps, W.heap.size ≤ x ∧ x < W4.heap.size
section
variable {J : Nat → (Nat → Prop) → World → Prop} {W W4 : World} {ps : List Nat} {j : Nat} {O : Nat → Prop} {val : Nat → Tk} {wr wr' : World}
theorem Ctx.bel (h : Ctx J W W4 ps j O val wr) (hJ : Stable J) (hb : Below wr.heap.size wr wr') : Ctx J W W4 ps j (fun b => O b ∨ (wr.heap.size ≤ b ∧ b < wr'.heap.size)) val wr' := by
  have hs := hb.size
  have hz := h.sz
  refine ⟨hJ _ _ _ _ _ h.j_ (IStep.of_below hb), fun x hx => ?_, fun x h1 h2 => .inl (h.mine x h1 h2), ⟨hz.1, by omega⟩, fun x h1 h2 h3 => (hb.block x (by omega)).trans (h.keep x h1 h2 h3), h.tks.bel hb, h.psin⟩
  rcases hx with hx | hx
  · have := h.os x hx; omega
  · omega
theorem Ctx.drew (h : Ctx J W W4 ps j O val wr) (hJ : Stable J) : Ctx J W W4 ps j O val wr.drew :=
  ⟨hJ _ _ _ _ _ h.j_ (IStep.refl O wr).drew, h.os, h.mine, h.sz, h.keep, fun a ha => (h.tks a ha).drew, h.psin⟩
theorem Ctx.yield (h : Ctx J W W4 ps j O val wr) {R : Nat → Prop} (hk : Kept (fun b => O b ∨ R b) wr wr') (hj : J (j + 1) O wr') : Ctx J W W4 ps (j + 1) O val wr' := by
  have hs := hk.size
  have hz := h.sz
  refine ⟨hj, fun x hx => by have := h.os x hx; omega, h.mine, ⟨hz.1, by omega⟩, fun x h1 h2 h3 => (hk.keep x (by omega) (.inl (h.mine x h1 h2))).trans (h.keep x h1 h2 h3), fun a ha => ?_, h.psin⟩
  have hl := (h.tks a ha).lt
  have hp := h.psin a ha
  exact ⟨by omega, (hk.keep a hl (.inl (h.mine a hp.1 hp.2))).trans (h.tks a ha).at_⟩
theorem Ctx.sl {α : Type} {f : α → List Value} {s : Nat} (h : Ctx J W W4 ps j O val wr) {A : Option Addr} {c : Nat} {l : List α} (hS : Sl f s W4 A c l) (hA : ∀ x off, A = some ⟨x, off, none⟩ → W.heap.size ≤ x ∧ x ∉ ps) : Sl f s wr A c l :=
  ⟨hS.le, hS.max, hS.size, fun hn => by
    obtain ⟨b, off, e, hbw, hc⟩ := hS.cells hn
    have := h.sz
    obtain ⟨a1, a2⟩ := hA b off e
    exact ⟨b, off, e, by omega, fun i v hv => (World.cell?_of_block (a := ⟨b, off + i, none⟩) (h.keep b a1 hbw a2)).trans (hc i v hv)⟩⟩
/-- a piece of work is taken off, and the time goes on -/
theorem Ctx.put (h : Ctx J W W4 ps j O val wr) (hJ : Stable J) {z p : Nat} {d t2 n2 : Int} (hz : z ∈ ps) (hp : O p) (hp2 : W4.heap.size ≤ p) (hP : Blk wr p 3 #[.int .i64 t2]) {t3 : Int} (hn : n2 = (val z).left - d)
    (hw : (wr.setCell ⟨z, 5, none⟩ (.int .i64 n2)).setCell ⟨p, 0, none⟩ (.int .i64 t3) = wr') :
    Ctx J W W4 ps j O (fun a => if a = z then setLeft (val a) d else val a) wr' ∧ Blk wr' p 3 #[.int .i64 t3] := by
  subst hw hn
  have hzi := h.psin z hz
  have hne : z ≠ p := by omega
  have hpz : p ≠ z := fun e => hne e.symm
  have hOz := h.mine z hzi.1 hzi.2
  have hsz : ((wr.setCell ⟨z, 5, none⟩ (.int .i64 ((val z).left - d))).setCell ⟨p, 0, none⟩ (.int .i64 t3)).heap.size = wr.heap.size := by simp [World.setCell]
  refine ⟨⟨hJ _ _ _ _ _ h.j_ ((IStep.setCell _ ⟨z, 5, none⟩ _ hOz).trans (IStep.setCell _ ⟨p, 0, none⟩ _ hp)), fun x hx => by rw [hsz]; exact h.os x hx, h.mine, by rw [hsz]; exact h.sz,
    fun x h1 h2 h3 => (Below.heap_setCell _ _ _ _ (by show x ≠ p; omega)).trans ((Below.heap_setCell _ _ _ _ (by show x ≠ z; rintro rfl; exact h3 hz)).trans (h.keep x h1 h2 h3)), fun a ha => ?_, h.psin⟩, ?_⟩
  · have hai := h.psin a ha
    refine Blk.far ?_ _ _ (by show a ≠ p; omega)
    by_cases e : a = z
    · subst e
      show Blk _ a 110 (tkC (if a = a then _ else _))
      rw [if_pos rfl]
      exact (h.tks a ha).set 5 _ rfl
    · show Blk _ a 110 (tkC (if a = z then _ else _))
      rw [if_neg e]
      exact (h.tks a ha).far _ _ e
  · exact (hP.far _ _ hpz).set 0 _ rfl
end
theorem map_put {ps : List Nat} {val : Nat → Tk} {i z : Nat} (hn : ps.Nodup) (h : ps[i]? = some z) (d : Int) : ps.map (fun a => if a = z then setLeft (val a) d else val a) = (ps.map val).set i (setLeft (val z) d) := by
  refine List.ext_getElem? fun k => ?_
  rw [List.getElem?_map, List.getElem?_set]
  by_cases e : i = k
  · subst e
    obtain ⟨h1, h2⟩ := List.getElem?_eq_some_iff.1 h
    simp [h1, h2]
  · rw [if_neg e, List.getElem?_map]
    cases hk : ps[k]? with
    | none => rfl
    | some a =>
      have : a ≠ z := by
        rintro rfl
        obtain ⟨h1, h2⟩ := List.getElem?_eq_some_iff.1 h
        obtain ⟨h3, h4⟩ := List.getElem?_eq_some_iff.1 hk
        exact e ((List.getElem_inj hn).1 (h2.trans h4.symm))
      simp [this]
theorem own_in {α : Type} {f : α → List Value} {sz : Nat} {e : TypeId} {w : World} {B : Nat} {v : Value} {l : List α} (h : OwnL f sz e w B v l) {ps : List Nat} {val : Nat → Tk} (hT : Tks w ps val) (he : e ≠ 110) {g : Nat} (hg : v.ownBlock = some g) : B ≤ g ∧ g < w.heap.size ∧ g ∉ ps := by
  obtain ⟨h1, h2, cur, h3⟩ := h.blk hg
  refine ⟨h1, h2, fun hx => ?_⟩
  have := (hT g hx).at_
  rw [h3] at this; cases this; exact he rfl
end Go.Proofs.YtnngemgfochodaaGreat.J
namespace Go.Proofs.YtnngemgfochodaaGreat.J
open Go.Proofs.YtnngemgfochodaaGreat
open Go.RowKit Go.Mine Go.Mine.Q
attribute [local go_sem] Oper.semAt_some

set_option maxRecDepth 100000 in
set_option maxHeartbeats 8000000 in
theorem work65_iter (w0 w1 : World) (A : Option Addr) (c : Nat) (l : List Jb) (hS : Sl jbC 5 w0 A c l) (hz : chk l = 0) (hb : Below w0.heap.size w0 w1) (B : Nat) (hB : w0.heap.size ≤ B) (c0 : w1.cell? ⟨B, 0, none⟩ = some (.slice A l.length c)) (hB2 : B < w1.heap.size) :
    Iter Tryz.prog 70 #[.pointer (some ⟨B, 0, none⟩)] ((pieces l).map fun p => #[sxV (sxOf p)]) (fun x => x < w0.heap.size ∨ x = B) w1 := by
  intro n lp J Jx W hw hR hJ hJx hY h0
  obtain ⟨hr, h64, hok⟩ := right_of hz
  have hlc := hS.le
  have hc := hS.max
  have hwz := hb.size
  have hSW : Sl jbC 5 W A c l := Sl.heap hS (fun x hx => ((hR x (.inl hx)).2).trans (hb.block x hx)) (by omega)
  have cW : W.cell? ⟨B, 0, none⟩ = some (.slice A l.length c) := (World.cell?_of_block (a := ⟨B, 0, none⟩) (hR B (.inr rfl)).2).trans c0
  have hBW : B < W.heap.size := by omega
  obtain ⟨i0, hi, hz0, hz1, hz2⟩ := info_parts Try_info108
  have HI := hide hi
  have HS := hide hSW
  have HR := hide hr
  have HOK := hide hok
  clear hS c0 hi hSW hr hok
  have hmm := @run_makeMap Tryz.prog
  refine callsIn_of_wp Tryz.func70 rfl trivial ?_ rfl
  simp only [Tryz.ntmps70]
  simp only [List.size_toArray, List.length_cons, List.length_nil, Nat.reduceAdd, Nat.reduceSub, Array.replicate_succ, Array.replicate_zero, List.push_toArray, List.append_toArray, List.nil_append, List.cons_append]
  gi_wp2_with fail
  obtain ⟨w4, e4, M4, g4⟩ := (MapI.made W Tryz.prog 3).put Tryz.underlying3 Tryz.underlying122 (by unfold maxLen; omega) (show I64 0 by unfold I64; omega) (.bool true)
  rw [e4]
  have b4 : Below W.heap.size W w4 := (kalloc (Below.refl _ _) (.map #[] 0)).grown g4 (by simp) (fun g hg => by have := Option.some.inj hg; omega)
  rw [← setM_nil, setM_add] at M4
  have HM4 := hide M4
  have HB4 := hide b4
  have cW4 := b4.cell (p := ⟨B, 0, none⟩) hBW |>.trans cW
  have lW4 : B < w4.heap.size := Nat.lt_of_lt_of_le hBW b4.size
  clear e4 g4 M4 b4 hmm
  gi_wp2_with fail
  clear cW4 lW4
  gi_loopw [4, 18] (fun v4 v18 wr => ∃ (k : Nat) (ps : List Nat) (val : Nat → Tk), k ≤ l.length ∧ v18 = .int .i64 k ∧ Hid (MapI Tryz.prog 3 wr W.heap.size (k + 1) (setM (readyM (l.take k)))) ∧ Hid (OwnL pC 1 108 wr W.heap.size v4 ps) ∧ Hid (Laid wr W.heap.size (l.take k) ps val) ∧ Hid (Below W.heap.size W wr)) (fun _ i _ => l.length - (nI i).toNat)
  case atStart => exact ⟨0, [], fun _ => ⟨⟨0, 0, 0, 0, false⟩, 0⟩, Nat.zero_le _, rfl, HM4, OwnL.nil _ _ _ _ _, Laid.nil _ _ _, HB4⟩
  case round =>
    clear HM4 HB4
    obtain ⟨k, ps, val, hk, rfl, HM, HO, HL, HBw⟩ := hrel
    by_cases hlt : k < l.length
    · obtain ⟨x, b, off, hx, _, rfl, hbw, d0, d1, d2, d3, d4⟩ := Sl.jb_at (HS.out.bel HBw.out) hlt
      have HX := hide (take_of_get hx)
      have hxr := rightJ_iff.1 (HR.out x (List.mem_of_getElem? hx))
      have cW2 := HBw.out.cell (p := ⟨B, 0, none⟩) hBW |>.trans cW
      clear hx
      gi_wp2_with fail
      clear d0 d1 d2 d3 d4 cW2
      have hlm := HM.out.lt
      obtain ⟨w5, e5, M5, g5⟩ := (HM.out.alloc (.cells (jbC x).toArray 71)).put Tryz.underlying3 Tryz.underlying122 (by unfold maxLen; omega) (show I64 x.ready by unfold I64; omega) (.bool true)
      simp only [jbC] at e5 M5 g5
      rw [e5]
      rw [setM_add, readyM_snoc, ← HX.out] at M5
      have z5 := g5.size
      simp only [World.size_alloc] at z5
      have HB5 := hide (Below.grown (kalloc HBw.out _) g5 (by simp; omega) (fun g hg => by have := Option.some.inj hg; omega))
      have HN5 := hide ((Blk.new wr (jbC x).toArray 71).grown g5 (by intro e; have := Option.some.inj e; omega))
      have hnm : ∀ g, u4.ownBlock = some g → some g ≠ some W.heap.size := fun g hg e => by
        have := Option.some.inj e; subst this
        obtain ⟨_, h2, cur, h3⟩ := HO.out.blk hg
        exact map_notcells HM.out (⟨h2, h3⟩ : Blk wr W.heap.size 108 cur) rfl
      have HO5 := hide ((HO.out.alloc (.cells (jbC x).toArray 71)).grown g5 hnm)
      have HL5 := hide (fun a (ha : a ∈ ps) ty cs (h : Blk wr a ty cs) => (h.alloc (.cells (jbC x).toArray 71)).grown g5 (by intro e; have := Option.some.inj e; subst this; exact map_notcells HM.out h rfl))
      have n0 := HN5.out.cell (v := .int .i64 x.no) 0 rfl
      have n1 := HN5.out.cell (v := .int .i64 x.ready) 1 rfl
      have n2 := HN5.out.cell (v := .int .i64 x.due) 2 rfl
      have n3 := HN5.out.cell (v := .int .i64 x.need) 3 rfl
      have n4 := HN5.out.cell (v := .bool x.alt) 4 rfl
      have nl := HN5.out.lt
      have HM5 := hide M5
      clear hnm M5 g5 e5 HM HO HBw
      gi_wp2_with (gi_at_builtin; refine wpListIn_append rfl (.tmp 25) (.tmp 31) 123 rfl rfl rfl (run_extend (f := pC) (base := W.heap.size) (l1 := ps) (l2 := [w5.heap.size]) Tryz.underlying123 HI.out hz0 hz1 hz2 rfl (by decide) ((HO5.out.alloc _).alloc _) (Sl.one (Blk.new1 _ _ _ _) rfl rfl (by decide) (by decide)) ?_ ?_ ?_ ?_) ?_)
      · intro a ha u hu
        exact pc_one a u hu
      · have := HL.out.len; simp only [List.length_singleton]; unfold maxLen; rw [this, List.length_take]; omega
      · have := HL.out.len; simp only [List.length_singleton]; rw [this, List.length_take]; omega
      · have := HB5.out.size; simp; omega
      · intro v6 w6 hO6 hg6 hat
        have hb6 := hide (Below.grown (kalloc (kalloc HB5.out (.cells (tkC ⟨x, x.need⟩) 110)) (.cells #[.pointer (some ⟨w5.heap.size, 0, none⟩)] 108)) hg6 (by have := HB5.out.size; simp; omega) (fun g hg => (HO5.out.blk hg).1))
        have hne : ∀ a ty cs, ty ≠ 108 → Blk w5 a ty cs → Blk w6 a ty cs := fun a ty cs hty h => ((h.alloc _).alloc _).grown hg6 (by
          intro e
          obtain ⟨_, _, cur, h3⟩ := HO5.out.blk e.symm
          rw [h.at_] at h3; cases h3; exact hty rfl)
        have hNN : Blk w6 w5.heap.size 110 (tkC ⟨x, x.need⟩) := ((Blk.new w5 (tkC ⟨x, x.need⟩) 110).alloc _).grown hg6 (by
          intro e
          have := (HO5.out.blk e.symm).2.1
          omega)
        have HL6 := hide (HL.out.snoc (w' := w6) (x := x) (g := w5.heap.size) (fun a ha cs h => hne a 110 cs (by decide) (HL5.out a ha 110 cs h)) hNN (by have := HB5.out.size; omega) (by omega))
        rw [← HX.out] at HL6
        have HM6 := hide ((((HM5.out.alloc (.cells (tkC ⟨x, x.need⟩) 110)).alloc (.cells #[.pointer (some ⟨w5.heap.size, 0, none⟩)] 108)).kept hg6 (by
          intro e
          obtain ⟨_, h2, cur, h3⟩ := HO5.out.blk e.symm
          exact map_notcells HM5.out (⟨h2, h3⟩ : Blk w5 W.heap.size 108 cur) rfl)))
        have HO6 := hide hO6
        clear hO6 hg6 hat hne hNN HM5 HO5 HB5 HN5 HL5 HL HX n0 n1 n2 n3 n4
        gi_wp2
        go_roundw
        case rel => exact ⟨k + 1, ps ++ [w5.heap.size], _, by omega, by go_num, HM6, HO6, HL6, hb6⟩
        case measure => simp [nI]; omega
    · obtain rfl : k = l.length := by omega
      have hM := HM.out
      have hL := HL.out
      have hB4 := HBw.out
      have hln9 : l.length + 1 ≤ 1000000000 := by omega
      rw [List.take_length] at hM hL
      have f4 := fun g hg => own_in HO.out hL.tks (by decide) (g := g) hg
      obtain ⟨A4, c4, rfl, hS4⟩ := HO.out.sl
      have HA4 := hide (fun x off (e : A4 = some ⟨x, off, none⟩) => f4 x (by rw [e]; rfl))
      have HS4 := hide hS4
      obtain ⟨wl, hwl⟩ : ∃ x, x = wr := ⟨_, rfl⟩
      subst hwl
      have HM4 := hide hM
      have HL4 := hide hL
      have HBl := hide hB4
      clear hM hL hB4 hS4 f4 HM HO HL HBw hk
      gi_wp2_with fail
      refine (callsIn_wide.2 (keys67 W.heap.size wl)).mono ?_
      rintro e w5 ⟨rfl, hw5⟩
      subst hw5
      gi_wp2_with fail
      refine (callsIn_wide.2 (sorted66 W.heap.size (l.length + 1) (setM (readyM l)) wl HM4.out hln9)).mono ?_
      rintro e w6 ⟨v7, tm, rfl, ht1, ht2, hT, hb6⟩
      have hwl := HBl.out.size
      have HTM := hide (Times.mk (l := l) ht1 fun q => by rw [ht2, setM_some, readyM_mem])
      have h6 : Tks w6 ps val := HL4.out.tks.bel hb6
      have f7 := fun g hg => own_in hT h6 (by decide) (g := g) hg
      obtain ⟨A7, c7, rfl, hS7⟩ := hT.sl
      have HA7 := hide (fun x off (e : A7 = some ⟨x, off, none⟩) => f7 x (by rw [e]; rfl))
      have HLN := hide HL4.out.len
      have HND := hide HL4.out.nodup
      have HS46 := hide (HS4.out.bel hb6)
      have h6z := hb6.size
      have HC0 := hide (show Ctx J W w6 ps 0 (fun b => False ∨ (W.heap.size ≤ b ∧ b < w6.heap.size)) val w6 from
        ⟨hJ _ _ _ _ _ h0 (IStep.of_below (kcall HBl.out hb6)), fun x hx => hx.elim (fun h => h.elim) id, fun x h1 h2 => .inr ⟨h1, h2⟩, ⟨by omega, Nat.le_refl _⟩, fun _ _ _ _ => rfl, h6, fun x hx => ⟨HL4.out.lo x hx, by have := (HL4.out.tks x hx).lt; omega⟩⟩)
      have HW0 := hide (show (∀ a, tm[0]? = some a → Wk l 0 a (ps.map val)) ∧ (tm[0]? = none → 0 = (pieces l).length) from by
        have hf := HTM.out.first HR.out
        exact ⟨fun a ha => by rw [hf] at ha; cases ha; rw [HL4.out.val_]; exact Wk.start HR.out h64, fun h => by rw [hf] at h; cases h⟩)
      have hLn := hS7.le
      have hcn := hS7.max
      have HS7 := hide hS7
      have HY := hide @hY
      have HNO := hide (okL_iff.1 HOK.out).2
      have HA4l := hide (fun x off (e : A4 = some ⟨x, off, none⟩) => show W.heap.size ≤ x ∧ x ∉ ps from ⟨(HA4.out x off e).1, (HA4.out x off e).2.2⟩)
      clear ht1 ht2 hT hb6 h6 f7 hS7 HL4 HM4 HBl HS4 hY HOK HA4
      gi_wp2_with fail
      gi_loopw [39] (fun v39 wr => ∃ (k j : Nat) (O : Nat → Prop) (val : Nat → Tk), k ≤ tm.length ∧ v39 = .int .i64 k ∧ Hid (Ctx J W w6 ps j O val wr) ∧ Hid ((∀ a, tm[k]? = some a → Wk l j a (ps.map val)) ∧ (tm[k]? = none → j = (pieces l).length))) (fun i _ => tm.length - (nI i).toNat)
      case atStart => exact ⟨0, 0, _, val, Nat.zero_le _, rfl, HC0, HW0⟩
      case round =>
        clear HC0 HW0
        obtain ⟨k, j, O, val', hk, rfl, HC, HW⟩ := hrel
        obtain ⟨wo, hwo⟩ : ∃ x, x = wr := ⟨_, rfl⟩
        subst hwo
        have hwoz := HC.out.sz
        by_cases hlt : k < tm.length
        · obtain ⟨a, ba, off, ha, _, rfl, hba, ca⟩ := HS7.out.ic_at hlt
          have hcell := fun (q : Nat) (v : Value) (h : w6.cell? ⟨ba, q, none⟩ = some v) => (World.cell?_of_block (a := ⟨ba, q, none⟩) (HC.out.keep ba (by have := (HA7.out ba off rfl).1; omega) hba (HA7.out ba off rfl).2.2)).trans h
          have ca' := hcell _ _ ca
          have lba : ba < wo.heap.size := by omega
          have kz : (k : Int) < (tm.length : Int) := by omega
          have hWa := HW.out.1 a ha
          have ha0 := hWa.t0
          have hau : a ≤ 1099511627776 + 67108864 := by have := hWa.cap; have := hWa.sum0; omega
          obtain ⟨U, hU⟩ : ∃ U, untilT tm k = U := ⟨_, rfl⟩
          have hcase : (((k : Int) + 1 < (tm.length : Int)) ∧ wo.cell? ⟨ba, off + (k + 1), none⟩ = some (.int .i64 U)) ∨ ((tm.length : Int) ≤ (k : Int) + 1 ∧ Hid (U = 2199023255552)) := by
            by_cases h1 : k + 1 < tm.length
            · obtain ⟨u, bu, offu, hu, _, e, hbu, cu⟩ := HS7.out.ic_at h1
              cases e
              exact .inl ⟨by omega, (by rw [← hU]; unfold untilT; rw [hu]; exact hcell _ _ cu)⟩
            · exact .inr ⟨by omega, hide (by rw [← hU]; unfold untilT; rw [List.getElem?_eq_none (by omega)]; rfl)⟩
          have hUb : a < U ∧ U ≤ 2199023255552 := by
            rw [← hU]; unfold untilT
            cases hu : tm[k + 1]? with
            | none => simp only [Option.getD_none]; omega
            | some u =>
              simp only [Option.getD_some]
              have h1 := HTM.out.lt ha hu (by omega)
              rcases (HTM.out.mem u).1 (List.mem_of_getElem? hu) with h2 | ⟨x, hx, h2⟩
              · omega
              · have := rightJ_iff.1 (HR.out x hx); omega
          have HU := hide hU
          have HWa := hide hWa
          have HAt := hide ha
          clear hcell ca ha hWa HW hU
          rcases hcase with ⟨kz1, cu⟩ | ⟨kz1, cu⟩
          all_goals
            gi_wp2_with fail
            obtain ⟨w7, hw7⟩ : ∃ w7, wo.alloc (.cells #[.int .i64 a] 3) = w7 := ⟨_, rfl⟩
            have hb7 : Below wo.heap.size wo w7 := by rw [← hw7]; exact kalloc (Below.refl _ _) _
            have P7 : Blk w7 wo.heap.size 3 #[.int .i64 a] := by rw [← hw7]; exact Blk.new _ _ _
            rw [hw7]
            try rw [← cu.out]
            have HC7 := hide (HC.out.bel hJ hb7)
            have hO7 : (fun b => O b ∨ (wo.heap.size ≤ b ∧ b < w7.heap.size)) wo.heap.size := .inr ⟨Nat.le_refl _, P7.lt⟩
            have HO7 := hide hO7
            have HP7 := hide P7
            clear hw7 hb7 P7 hO7 ca' lba HC
            gi_loopw [] (fun wr => ∃ (j : Nat) (O : Nat → Prop) (val : Nat → Tk) (t : Int), Hid (Ctx J W w6 ps j O val wr) ∧ Hid (Wk l j t (ps.map val)) ∧ Hid (Blk wr wo.heap.size 3 #[.int .i64 t]) ∧ Hid (O wo.heap.size ∧ a ≤ t ∧ t ≤ U)) (fun wr => (2199023255552 - nI ((wr.cell? ⟨wo.heap.size, 0, none⟩).getD (.int .i64 0))).toNat)
            case atStart => exact ⟨j, _, val', a, HC7, HWa, HP7, hide ⟨HO7.out, Int.le_refl _, by omega⟩⟩
            case round =>
              clear HC7 HWa HP7 HO7
              obtain ⟨j, O, val, t, HC, HK, HP, HO⟩ := hrel
              have p0 := HP.out.cell (v := .int .i64 t) 0 rfl
              have pl := HP.out.lt
              have hOt := HO.out.2
              by_cases htu : t < U
              · have K8 := hide (clone69 A4 c4 ps wr (HC.out.sl HS46.out HA4l.out) (by have := HLN.out; omega))
                gi_wp2_with fail
                refine (callsIn_wide.2 K8.out).mono ?_
                rintro e w8 ⟨v8, rfl, hO8, hb8⟩
                have K9 := hide (delete68 v8 ps (fun a => notNow t (val a)) wo.heap.size wr.heap.size w8 hO8 hb8.size (by have := HLN.out; omega) (fun a ha W' hW' => not70 a wo.heap.size (val a) t W' ((HC.out.tks a ha).bel (hb8.trans hW')) (HP.out.bel (hb8.trans hW'))))
                clear K8 hO8
                gi_wp2_with fail
                refine (callsIn_wide.2 K9.out).mono ?_
                rintro e w9 ⟨A9, c9, rfl, hS9, hb9⟩
                change Sl pC 1 w9 A9 c9 (readyL t ps val) at hS9
                have hb9' := hb8.trans hb9
                have HB9 := hide hb9'
                have HC9 := hide (HC.out.bel hJ hb9')
                have HP9 := hide (HP.out.bel hb9')
                have p9 := HP9.out.cell (v := .int .i64 t) 0 rfl
                have pl9 := HP9.out.lt
                have hwf := HK.out.wf
                have hpw : (js (ps.map val)).Pairwise (fun x y => x.no < y.no) := by rw [HK.out.js_]; exact HNO.out
                have hOp : (fun b => O b ∨ (wr.heap.size ≤ b ∧ b < w9.heap.size)) wo.heap.size := .inl HO.out.1
                have HOp := hide hOp
                rw [show (ps.filter fun a => !(fun a => notNow t (val a)) a) = readyL t ps val from rfl]
                clear K9 hb8 hb9 hb9' hOp
                rcases hr : readyL t ps val with _ | ⟨z0, r⟩
                · have hno := ready_none hwf hr
                  have hst := HTM.out.step HR.out h64 HK.out HAt.out hOt.1 (by rw [HU.out]; exact hOt.2) (fun _ => hno)
                  have HST := hide hst
                  rw [hr] at hS9
                  clear hno hst hwf hpw hr hS9
                  gi_wp2_with fail
                  go_roundw
                  case rel => exact ⟨k + 1, j, _, val, by omega, by go_num, HC9, HST⟩
                  case measure => simp [nI]; omega
                · obtain ⟨i, hi, hbest⟩ := ready_best hwf hpw hr
                  have hzp := List.mem_of_getElem? hi
                  have KM := hide (min71 A9 c9 (readyL t ps val) z0 r val w9 hS9 hr (fun a ha => HC9.out.tks a (List.mem_filter.1 ha).1))
                  have hl9 : 1 ≤ (readyL t ps val).length := by rw [hr]; simp
                  have hl9' := hS9.le
                  have hc9' := hS9.max
                  rw [← hr]
                  have hsp := HTM.out.span HK.out HAt.out hOt.1 (by rw [HU.out]; exact htu) hbest
                  rw [HU.out] at hsp
                  obtain ⟨hj, hwk⟩ := HK.out.work hbest
                  rw [← map_put HND.out hi] at hwk
                  obtain ⟨q1, q2⟩ := span1_pos hbest
                  generalize minGo val z0 r = z at *
                  generalize span1 t (ps.map val) (val z) = d at *
                  generalize readyL t ps val = rl at *
                  have hcap := HK.out.cap
                  have hsm := HK.out.sum0
                  have ht0 := HK.out.t0
                  have hxw := hwf _ (List.mem_of_getElem? hbest.1)
                  have hdU : d ≤ U - t := by rw [hsp]; split <;> omega
                  have hmn : min (val z).left (U - t) = d := by rw [hsp]; split <;> omega
                  have hxr := rightJ_iff.1 (HR.out (val z).j (by rw [← HK.out.js_]; exact List.mem_map.2 ⟨_, List.mem_of_getElem? hbest.1, rfl⟩))
                  have hwa : IntKind.i64.wrap (U - t) = U - t := by rw [IntKind.wrap_i64]; omega
                  have hwb : IntKind.i64.wrap (t + d) = t + d := by rw [IntKind.wrap_i64]; omega
                  have hwc : IntKind.i64.wrap ((val z).left - d) = (val z).left - d := by rw [IntKind.wrap_i64]; omega
                  have HJ := hide hj
                  have HWK := hide hwk
                  have HZ := hide hzp
                  have HOT := hide (show a ≤ t + d ∧ t + d ≤ U ∧ 0 < d by omega)
                  clear hr hwf hpw hi hbest hsp hj hwk hcap hsm ht0 hxw hxr hdU q1 q2 hOt hS9 hzp
                  gi_wp2_with fail
                  refine (callsIn_wide.2 KM.out).mono ?_
                  rintro e wa ⟨rfl, hba9⟩
                  have HCA := hide (HC9.out.bel hJ hba9)
                  have HPA := hide (HP9.out.bel hba9)
                  have HOA := hide (show (fun b => (O b ∨ (wr.heap.size ≤ b ∧ b < w9.heap.size)) ∨ (w9.heap.size ≤ b ∧ b < wa.heap.size)) wo.heap.size from .inl HOp.out)
                  have pA := HPA.out.cell (v := .int .i64 t) 0 rfl
                  have plA := HPA.out.lt
                  have z0' := (HCA.out.tks z HZ.out).cell (v := .int .i64 (val z).j.no) 0 rfl
                  have z5' := (HCA.out.tks z HZ.out).cell (v := .int .i64 (val z).left) 5 rfl
                  have zl := (HCA.out.tks z HZ.out).lt
                  clear KM hba9 HC9 HP9 HOp p9 pl9 pl
                  gi_wp2_with fail
                  refine wpIn_region_still_lit (ro := none) (by kernel_rfl) (by kernel_rfl) ?_
                  repeat ((with_reducible refine wpStill_step (fun K hK => ?_)); go_simp; (try go_bits); (with_reducible refine hK _ ?_); clear hK K)
                  (with_reducible refine wpStill_nil ?_)
                  obtain ⟨Oz, HCB, HOZ⟩ : ∃ Oz : Nat → Prop, Hid (Ctx J W w6 ps j Oz val wa.drew.drew) ∧ Hid (Oz wo.heap.size) := ⟨_, hide ((HCA.out.drew hJ).drew hJ), HOA⟩
                  have HPB := hide HPA.out.drew.drew
                  obtain ⟨fn, tmps, assign, body, hyy, hRR⟩ := HY.out j #[sxV ⟨(val z).j.no, t, t + d⟩] Oz wa.drew.drew (by rw [List.getElem?_map, HJ.out]; rfl) HCB.out.j_ HCB.out.os (Nat.le_trans HCB.out.sz.1 HCB.out.sz.2)
                  replace hRR := hide hRR
                  simp only [sxV, sxC] at hyy
                  clear HCA HPA
                  gi_wp2_with fail
                  refine wpIn_region_still_tail (ro := none) 11 (by kernel_rfl) (by kernel_rfl) ?_
                  simp only [List.take_succ_cons, List.take_zero, List.drop_succ_cons, List.drop_zero]
                  repeat ((with_reducible refine wpStill_step (fun K hK => ?_)); go_simp; (try go_bits); (with_reducible refine hK _ ?_); clear hK K)
                  (with_reducible refine wpStill_nil ?_)
                  have hzl := (HCB.out.psin z HZ.out).2
                  have hzne : z ≠ wo.heap.size := by omega
                  clear HOA
                  gi_wp2_with fail
                  refine hRR.out.mono ?_
                  rintro e W' ⟨hK, (⟨rfl, hj'⟩ | ⟨rfl, hjx⟩)⟩
                  · have HCY := hide (HCB.out.yield hK hj')
                    have hKz := hK.size
                    have HPY := hide (Blk.mk (Nat.lt_of_lt_of_le HPB.out.lt hKz) ((hK.keep _ HPB.out.lt (.inl HOZ.out)).trans HPB.out.at_))
                    have y0 := HPY.out.cell (v := .int .i64 t) 0 rfl
                    have yt := HPY.out.thaw 0
                    have yl := HPY.out.lt
                    have y5 := (HCY.out.tks z HZ.out).cell (v := .int .i64 (val z).left) 5 rfl
                    have y5t := (HCY.out.tks z HZ.out).thaw 5
                    have y5l := (HCY.out.tks z HZ.out).lt
                    obtain ⟨wf, hwf⟩ : ∃ wf, (W'.setCell ⟨z, 5, none⟩ (.int .i64 ((val z).left - d))).setCell ⟨wo.heap.size, 0, none⟩ (.int .i64 (t + d)) = wf := ⟨_, rfl⟩
                    obtain ⟨hCF, hPF⟩ := HCY.out.put hJ HZ.out HOZ.out hwoz.2 HPY.out rfl hwf
                    have HCF := hide hCF
                    have HPF := hide hPF
                    have HWF := hide hwf
                    clear hCF hPF hwf hK hj' hRR hyy HCB HPB HCY HPY pA plA z0' z5' zl hKz
                    gi_wp2_with fail
                    rw [HWF.out]
                    have hc1 := HPF.out.cell (v := .int .i64 (t + d)) 0 rfl
                    go_roundw
                    case rel => exact ⟨j + 1, Oz, _, t + d, HCF, HWK, HPF, hide ⟨HOZ.out, HOT.out.1, HOT.out.2.1⟩⟩
                    case measure => have := HOT.out; simp [hc1, p0, nI]; omega
                  · have hKz := hK.size
                    have hOs := HCB.out.os
                    have hz1' := HCB.out.sz
                    gi_wp2
                    refine bodyPost_ret (results_none rfl _ _ _) rfl ?_
                    exact ⟨⟨_, rfl⟩, Oz, fun x hx => by have := hOs x hx; omega, by omega, .inr hjx⟩
              · have HST := hide (HTM.out.step HR.out h64 HK.out HAt.out hOt.1 (by rw [HU.out]; exact hOt.2) (fun h => absurd (by rw [HU.out] at h; exact h) htu))
                gi_wp2_with fail
                go_roundw
                case rel => exact ⟨k + 1, j, O, val, by omega, by go_num, HC, HST⟩
                case measure => simp [nI]; omega
        · have hjl := HW.out.2 (List.getElem?_eq_none (by omega))
          have hOs := HC.out.os
          have HCj := hide HC.out.j_
          gi_wp2
          refine bodyPost_end (results_none rfl _ _ _) rfl ?_
          exact ⟨⟨_, rfl⟩, O, hOs, Nat.le_trans hwoz.1 hwoz.2, .inl (by rw [List.length_map, ← hjl]; exact HCj.out)⟩
end Go.Proofs.YtnngemgfochodaaGreat.J
