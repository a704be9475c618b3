/-
  queue: Accepts of the reference.
  queue.Accepts, where jobs are right.
  queue: Accepts, both.
-/
import Derived.Test.YtnngemgfochodaaGreatTM9
import Derived.Test.YtnngemgfochodaaGreatMore
import Derived.Test.YtnngemgfochodaaGreatTM12
import Derived.Test.YtnngemgfochodaaGreatMapIns
import Derived.Maps.RangeWalk
namespace Go.Proofs.YtnngemgfochodaaGreat.J
open Go.Proofs.YtnngemgfochodaaGreat
open Go.RowKit Go.Mine Go.Mine.Q
def accR (l : List Jb) (s : List Sx) : Bool × Int := if chk l = 0 then (acc l s, 0) else (false, chk l)
theorem done_take {s : List Sx} {k : Nat} {x : Sx} (h : s[k]? = some x) (n : Int) : doneN n (s.take (k + 1)) = doneN n (s.take k) + (if x.no = n then x.u - x.f else 0) := by
  unfold doneN
  rw [take_of_get h, sumF_append]
  simp [sumF]
theorem okS_ref (last : Int) (y : Jb) (x : Sx) : okS last (some y) x = (!decide (x.u ≤ x.f) && (!decide (x.f < y.ready) && (!decide (y.due < x.u) && decide (last ≤ x.f)))) := by
  rw [Bool.eq_iff_iff]
  simp only [okS, Bool.and_eq_true, decide_eq_true_eq, Bool.not_eq_true', decide_eq_false_iff_not]
  omega
theorem acc_bad {l : List Jb} {s : List Sx} (h : accGo l 0 s = false) : acc l s = false := by unfold acc; rw [h]; rfl
theorem madeZ (n : Nat) (w : World) (hn : n ≤ 1000) : OwnL ic 1 3 (w.alloc (.cells (madeCells (Value.int .i64 0).cells (n * 1)) 3)) w.heap.size (.slice (some ⟨w.heap.size, 0, none⟩) n n) (List.replicate n (0 : Int)) := by
  have hf : ∀ n : Nat, (List.replicate n (0 : Int)).flatMap ic = List.replicate n (Value.int .i64 0) := fun n => by
    induction n with
    | zero => rfl
    | succ n ih => rw [List.replicate_succ, List.flatMap_cons, ih, List.replicate_succ]; rfl
  have hm : (madeCells (Value.int .i64 0).cells (n * 1)).toList = List.replicate n (Value.int .i64 0) := by
    refine List.ext_getElem? fun i => ?_
    by_cases h : i < n
    · simp [madeCells, Value.cells, h, Nat.mod_one]
    · simp [madeCells, Value.cells, h]
  have hsz : (madeCells (Value.int .i64 0).cells (n * 1)).size = n := by rw [← Array.length_toList, hm]; simp
  refine ⟨⟨by rw [hf]; simp, .inr ⟨w.heap.size, n, _, by simp, Nat.le_refl _, heap_new _ _, by simp, by simp only [maxLen]; omega, by rw [hsz]; omega, ?_⟩⟩, fun _ _ => rfl⟩
  rw [hm, hf]
  simp
end Go.Proofs.YtnngemgfochodaaGreat.J
namespace Go.Proofs.YtnngemgfochodaaGreat.J
open Go.Proofs.YtnngemgfochodaaGreat
open Go.RowKit Go.Maps Go.Mine Go.Mine.Q
attribute [local go_sem] Oper.semAt_some
def adV (ad : Int → Nat) (x : Jb) : Value := .pointer (some ⟨ad x.no, 0, none⟩)
theorem byNo_congr {F G : Jb → Value} {l : List Jb} (h : ∀ y ∈ l, F y = G y) : byNo F l = byNo G l := by
  funext n
  unfold byNo
  cases hj : jobOf l n with
  | none => rfl
  | some y => rw [Option.map_some, Option.map_some, h y (jobOf_some hj).1]
/-- tasks, each in a block of its own -/
structure TkN (w : World) (B : Nat) (l : List Jb) (ad : Int → Nat) (lf : Jb → Int) : Prop where
  blk : ∀ x ∈ l, Blk w (ad x.no) 110 (tkC ⟨x, lf x⟩)
  lo : ∀ x ∈ l, B ≤ ad x.no
  inj : ∀ x ∈ l, ∀ y ∈ l, ad x.no = ad y.no → x.no = y.no
theorem TkN.bel {w w' : World} {B : Nat} {l : List Jb} {ad : Int → Nat} {lf : Jb → Int} (h : TkN w B l ad lf) (hb : Below w.heap.size w w') : TkN w' B l ad lf := ⟨fun x hx => (h.blk x hx).bel hb, h.lo, h.inj⟩
theorem TkN.grown {w w' : World} {B : Nat} {l : List Jb} {ad : Int → Nat} {lf : Jb → Int} (h : TkN w B l ad lf) {row : Option Nat} (hg : w.grownBy w' row) (hr : ∀ x ∈ l, some (ad x.no) ≠ row) : TkN w' B l ad lf := ⟨fun x hx => (h.blk x hx).grown hg (hr x hx), h.lo, h.inj⟩
theorem TkN.snoc {w w' : World} {B : Nat} {l : List Jb} {ad : Int → Nat} {lf : Jb → Int} (h : TkN w B l ad lf) {x : Jb} {g : Nat} (hl : ∀ y ∈ l, y.no < x.no) (hk : ∀ a, (∀ cs, Blk w a 110 cs → Blk w' a 110 cs)) (hg : Blk w' g 110 (tkC ⟨x, lf x⟩)) (hB : B ≤ g) (hn : w.heap.size ≤ g) :
    TkN w' B (l ++ [x]) (fun n => if n = x.no then g else ad n) lf := by
  have hne : ∀ y ∈ l, ¬ y.no = x.no := fun y hy e => by have := hl y hy; omega
  have hlt : ∀ y ∈ l, ad y.no < g := fun y hy => by have := (h.blk y hy).lt; omega
  refine ⟨fun y hy => ?_, fun y hy => ?_, fun y hy z hz e => ?_⟩
  · rcases List.mem_append.1 hy with hy | hy
    · show Blk w' (if y.no = x.no then _ else _) 110 _
      rw [if_neg (hne y hy)]; exact hk _ _ (h.blk y hy)
    · simp at hy; subst hy
      show Blk w' (if y.no = y.no then _ else _) 110 _
      rw [if_pos rfl]; exact hg
  · rcases List.mem_append.1 hy with hy | hy
    · show B ≤ (if y.no = x.no then _ else _)
      rw [if_neg (hne y hy)]; exact h.lo y hy
    · simp at hy; subst hy
      show B ≤ (if y.no = y.no then _ else _)
      rw [if_pos rfl]; exact hB
  · have e' : (if y.no = x.no then g else ad y.no) = (if z.no = x.no then g else ad z.no) := e
    rcases List.mem_append.1 hy with hy1 | hy1 <;> rcases List.mem_append.1 hz with hz1 | hz1
    · rw [if_neg (hne y hy1), if_neg (hne z hz1)] at e'; exact h.inj y hy1 z hz1 e'
    · have hz2 : z = x := by simpa using hz1
      rw [if_neg (hne y hy1), if_pos (by rw [hz2])] at e'
      have := hlt y hy1; omega
    · have hy2 : y = x := by simpa using hy1
      rw [if_neg (hne z hz1), if_pos (by rw [hy2])] at e'
      have := hlt z hz1; omega
    · have hy2 : y = x := by simpa using hy1
      have hz2 : z = x := by simpa using hz1
      rw [hy2, hz2]
theorem TkN.put {w w' : World} {B : Nat} {l : List Jb} {ad : Int → Nat} {lf lf' : Jb → Int} (h : TkN w B l ad lf) {y : Jb} (hy : y ∈ l) (hw : w.setCell ⟨ad y.no, 5, none⟩ (.int .i64 (lf' y)) = w') (ho : ∀ x ∈ l, x.no ≠ y.no → lf' x = lf x) (hp : ∀ x ∈ l, x.no = y.no → x = y) : TkN w' B l ad lf' := by
  subst hw
  refine ⟨fun x hx => ?_, h.lo, h.inj⟩
  by_cases e : x.no = y.no
  · obtain rfl := hp x hx e
    exact (h.blk x hx).set 5 _ rfl
  · rw [ho x hx e]
    exact (h.blk x hx).far _ _ (fun e' => e (h.inj x hx y hy e'))
def lfAt (s : List Sx) (i : Nat) (x : Jb) : Int := x.need - doneN x.no (s.take i)
theorem no_inj {l : List Jb} (hp : l.Pairwise fun x y => x.no < y.no) {x y : Jb} (hx : x ∈ l) (hy : y ∈ l) (h : x.no = y.no) : x = y := by
  have h1 := jobOf_mem hp hx
  rw [h, jobOf_mem hp hy] at h1
  exact (Option.some.inj h1).symm
set_option maxRecDepth 100000 in
set_option maxHeartbeats 8000000 in
theorem accepts25_good (A : Option Addr) (c : Nat) (l : List Jb) (B : Option Addr) (d : Nat) (s : List Sx) (w : World) (hS : Sl jbC 5 w A c l) (hT0 : Sl sxC 3 w B d s) (hz : chk l = 0) (hs : s.length ≤ 1000) (hI : ∀ x ∈ s, I64 x.no) :
    Calls Tryz.prog 34 #[.slice A l.length c, .slice B s.length d] w fun e w' => e = .returned (.tuple #[.bool (acc l s), .int .i64 0]) ∧ Below w.heap.size w w' := by
  obtain ⟨hr, h64, hok⟩ := right_of hz
  have hlc := hS.le
  have hc := hS.max
  have hld := hT0.le
  have hd := hT0.max
  have K27 := hide (fun w (h : Sl jbC 5 w A c l) => by have := check27 A c l w h; rw [hz] at this; exact this)
  have hmm := @run_makeMap Tryz.prog
  have HRT := hide hr
  have HP := hide (okL_iff.1 hok).2
  have HS := hide hS
  have HT := hide hT0
  have HI := hide hI
  have HR := hide (show acc l s = (accGo l 0 s && l.all fun j => decide (doneN j.no s = j.need)) from rfl)
  generalize acc l s = RR at HR ⊢
  clear hS hT0 hr hz hok hI
  go_enter Tryz.func34, Tryz.ntmps34
  go_wp2_with fail
  refine (K27.out w HS.out).mono ?_
  rintro e w1 ⟨rfl, hb⟩
  have HM4 := hide (MapI.made w1 Tryz.prog 3)
  have HB4 := hide (kalloc hb (.map #[] 0))
  have HK4 : Hid (TkN (w1.alloc (.map #[] 0)) w.heap.size (l.take 0) (fun _ => 0) (·.need)) := hide ⟨by simp, by simp, by simp⟩
  have hw1 := hb.size
  clear hb K27
  go_wp2_with fail
  clear hmm
  go_loopw [25] (fun v25 wr => ∃ (k : Nat) (ad : Int → Nat), k ≤ l.length ∧ v25 = .int .i64 k ∧ Hid (MapI Tryz.prog 3 wr w1.heap.size k (byNo (adV ad) (l.take k))) ∧ Hid (TkN wr w.heap.size (l.take k) ad (·.need)) ∧ Hid (Below w.heap.size w wr)) (fun i _ => l.length - (nI i).toNat)
  case atStart => exact ⟨0, _, Nat.zero_le _, rfl, HM4, HK4, HB4⟩
  case round =>
    clear HM4 HB4 HK4
    obtain ⟨k, ad, hk, rfl, HM, HK, HB⟩ := hrel
    by_cases hlt : k < l.length
    · obtain ⟨x, b, off, hx, _, rfl, hbw, d0, d1, d2, d3, d4⟩ := Sl.jb_at (HS.out.bel HB.out) hlt
      have HX := hide (take_of_get hx)
      have HL := hide (take_lt HP.out hx)
      have hxr := rightJ_iff.1 (HRT.out x (List.mem_of_getElem? hx))
      clear hx
      go_wp2_with fail
      obtain ⟨w5, e5, M5, g5⟩ := ((HM.out.alloc (.cells (jbC x).toArray 71)).alloc (.cells (tkC ⟨x, x.need⟩) 110)).put Tryz.underlying3 Tryz.underlying107 (by unfold maxLen; omega) (show I64 x.no by unfold I64; omega) (.pointer (some ⟨wr.heap.size + 1, 0, none⟩))
      simp only [jbC, tkC] at e5 M5 g5
      rw [e5]
      have hzB := HB.out.size
      have M6 : MapI Tryz.prog 3 w5 w1.heap.size (k + 1) (byNo (adV fun n => if n = x.no then wr.heap.size + 1 else ad n) (l.take (k + 1))) := by
        rw [HX.out, ← byNo_snoc HL.out, byNo_congr (F := adV fun n => if n = x.no then wr.heap.size + 1 else ad n) (G := adV ad) (l := l.take k) (fun y hy => by have := HL.out y hy; show Value.pointer (some ⟨if y.no = x.no then _ else _, 0, none⟩) = _; rw [if_neg (by omega)]; rfl)]
        show MapI _ _ _ _ _ (Go.Mine.upd _ _ (Value.pointer (some ⟨if x.no = x.no then _ else _, 0, none⟩)))
        rw [if_pos rfl]; exact M5
      have hnm : ∀ a cs, Blk wr a 110 cs → some a ≠ some w1.heap.size := fun a cs h e => map_notcells HM.out h (Option.some.inj e)
      have K6 : TkN w5 w.heap.size (l.take (k + 1)) (fun n => if n = x.no then wr.heap.size + 1 else ad n) (·.need) := by
        rw [HX.out]
        refine HK.out.snoc HL.out (fun a cs h => ((h.alloc _).alloc _).grown g5 (hnm a cs h)) ((Blk.new1 wr _ _ _).grown g5 (by have := HM.out.lt; simp; omega)) (by omega) (by omega)
      have B6 : Below w.heap.size w w5 := Below.grown (kalloc (kalloc HB.out _) _) g5 (by simp; omega) (fun g hg => by have := Option.some.inj hg; omega)
      have HM6 := hide M6
      have HK6 := hide K6
      have HB6 := hide B6
      clear M5 M6 K6 B6 g5 e5 HM HK HB d0 d1 d2 d3 d4 hnm
      go_wp2
      go_roundw
      case rel => exact ⟨k + 1, _, by omega, by go_num, HM6, HK6, HB6⟩
      case measure => simp [nI]; omega
    · obtain rfl : k = l.length := by omega
      have hM := HM.out
      have hK := HK.out
      rw [List.take_length] at hM hK
      obtain ⟨wl, hwl⟩ : ∃ x, x = wr := ⟨_, rfl⟩
      subst hwl
      have HM5 := hide hM
      have HK5 : Hid (TkN wl w.heap.size l ad (lfAt s 0)) := hide (by
        have e : lfAt s 0 = (·.need) := by funext x; simp [lfAt, doneN, sumF]
        rw [e]; exact hK)
      have HB5 := hide HB.out
      clear hM hK HM HK HB
      go_wp2
      go_loopw [10, 40] (fun v10 v40 wr => ∃ (i : Nat) (last : Int), i ≤ s.length ∧ v40 = .int .i64 i ∧ v10 = .int .i64 last ∧ Hid (accGo l 0 s = accGo l last (s.drop i)) ∧ Hid (∀ x ∈ l, 0 ≤ doneN x.no (s.take i) ∧ doneN x.no (s.take i) ≤ (i : Int) * 1099511627776) ∧ Hid (MapI Tryz.prog 3 wr w1.heap.size l.length (byNo (adV ad) l)) ∧ Hid (TkN wr w.heap.size l ad (lfAt s i)) ∧ Hid (Below w.heap.size w wr)) (fun _ i _ => s.length - (nI i).toNat)
      case atStart => exact ⟨0, 0, Nat.zero_le _, rfl, rfl, rfl, (fun x _ => by simp [doneN, sumF]), HM5, HK5, HB5⟩
      case round =>
        clear HM5 HK5 HB5
        obtain ⟨i, last, hi, rfl, rfl, HQ, HD, HM, HK, HB⟩ := hrel
        by_cases hlt2 : i < s.length
        · obtain ⟨x, b, off, hx, hdr, rfl, hbw, q0, q1, q2⟩ := Sl.sx_at (HT.out.bel HB.out) hlt2
          have hq := HQ.out
          rw [hdr, accGo] at hq
          have iz : (i : Int) < (s.length : Int) := by omega
          obtain ⟨w5, hw5⟩ : ∃ w5, wr.alloc (.cells #[.int .i64 x.no, .int .i64 x.f, .int .i64 x.u] 104) = w5 := ⟨_, rfl⟩
          have X5 : Blk w5 wr.heap.size 104 #[.int .i64 x.no, .int .i64 x.f, .int .i64 x.u] := by rw [← hw5]; exact Blk.new _ _ _
          have hbW : Below wr.heap.size wr w5 := by rw [← hw5]; exact kalloc (Below.refl _ _) _
          have M5 : MapI Tryz.prog 3 w5 w1.heap.size l.length (byNo (adV ad) l) := HM.out.bel hbW
          have hlk := M5.look_ok Tryz.underlying3 Tryz.underlying107 (Tryz.zeroValue108 _) (HI.out x (List.mem_of_getElem? hx))
          have HX := hide hx
          have HB5 := hide (kcall HB.out hbW)
          have HK5 := hide (HK.out.bel hbW)
          have HM5 := hide M5
          have n0 := X5.cell (v := .int .i64 x.no) 0 rfl
          have n1 := X5.cell (v := .int .i64 x.f) 1 rfl
          have n2 := X5.cell (v := .int .i64 x.u) 2 rfl
          have nl := X5.lt
          clear hx hdr HQ M5 hbW
          cases hj : jobOf l x.no with
          | none =>
            rw [show byNo (adV ad) l x.no = none by unfold byNo; rw [hj]; rfl] at hlk
            rw [hj, show okS last none x = false from rfl, Bool.false_and] at hq
            simp only [Option.getD_none, Option.isSome_none] at hlk
            have H := hide hq
            clear hq hj
            go_wp2_with fail
            refine wp_still_all (by kernel_rfl) (by kernel_rfl) ?_
            repeat (first | ((with_reducible refine wpStill_step (fun K hK => ?_)); go_simp; (try go_bits); (with_reducible refine hK _ ?_); clear hK K) | ((with_reducible refine wpStill_step (fun K hK => ?_)); go_simp; rw [if_neg (by simp [undef])]; (with_reducible refine hK _ ?_); clear hK K))
            (with_reducible refine wpStill_nil ?_)
            go_wp2
            exact bodyPost_ret (v := .tuple #[.bool false, .int .i64 0]) (by simp [results, Tryz.results34, go_sem]) rfl ⟨by rw [HR.out, H.out]; rfl, HB5.out.drew⟩
          | some y =>
            obtain ⟨hym, hyn⟩ := jobOf_some hj
            rw [show byNo (adV ad) l x.no = some (.pointer (some ⟨ad y.no, 0, none⟩)) by unfold byNo; rw [hj]; rfl] at hlk
            rw [hj, okS_ref] at hq
            simp only [Option.getD_some, Option.isSome_some] at hlk
            have hyr := rightJ_iff.1 (HRT.out y hym)
            have yb := HK5.out.blk y hym
            have t1 := yb.cell (v := .int .i64 y.ready) 1 rfl
            have t2 := yb.cell (v := .int .i64 y.due) 2 rfl
            have t5 := yb.cell (v := .int .i64 (lfAt s i y)) 5 rfl
            have tl := yb.lt
            have tt := yb.thaw 5
            have hcs : (decide (x.f < max last y.ready) = true ∧ accGo l 0 s = false) ∨ (decide (x.f < max last y.ready) = false ∧ decide (x.u ≤ x.f) = true ∧ accGo l 0 s = false) ∨
                (decide (x.f < max last y.ready) = false ∧ decide (x.u ≤ x.f) = false ∧ decide (y.due < x.u) = true ∧ accGo l 0 s = false) ∨
                (decide (x.f < max last y.ready) = false ∧ decide (x.u ≤ x.f) = false ∧ decide (y.due < x.u) = false ∧ accGo l 0 s = accGo l x.u (s.drop (i + 1)) ∧ last ≤ x.f ∧ y.ready ≤ x.f) := by
              rw [hq]
              by_cases h1 : x.f < max last y.ready
              · left
                refine ⟨decide_eq_true h1, ?_⟩
                by_cases h2 : x.f < y.ready
                · simp [h2]
                · have : ¬ last ≤ x.f := by omega
                  simp [this]
              · right
                have h1l : last ≤ x.f := by omega
                have h1r : ¬ x.f < y.ready := by omega
                by_cases h2 : x.u ≤ x.f
                · left; exact ⟨decide_eq_false h1, decide_eq_true h2, by simp [h2]⟩
                · right
                  by_cases h3 : y.due < x.u
                  · left; exact ⟨decide_eq_false h1, decide_eq_false h2, decide_eq_true h3, by simp [h3]⟩
                  · right; exact ⟨decide_eq_false h1, decide_eq_false h2, decide_eq_false h3, by simp [h1l, h1r, h2, h3], h1l, by omega⟩
            have HYM := hide hym
            have HYN := hide hyn
            clear hq hj yb hym hyn
            rcases hcs with ⟨g1, H⟩ | ⟨g1, g2, H⟩ | ⟨g1, g2, g3, H⟩ | ⟨g1, g2, g3, H, hl1, hl2⟩
            · replace H := hide H
              go_wp2_with fail
              refine wp_still_all (by kernel_rfl) (by kernel_rfl) ?_
              repeat (first | ((with_reducible refine wpStill_step (fun K hK => ?_)); go_simp; (try go_bits); (with_reducible refine hK _ ?_); clear hK K) | ((with_reducible refine wpStill_step (fun K hK => ?_)); go_simp; rw [if_neg (by simp [undef])]; (with_reducible refine hK _ ?_); clear hK K))
              (with_reducible refine wpStill_nil ?_)
              go_wp2
              exact bodyPost_ret (v := .tuple #[.bool false, .int .i64 0]) (by simp [results, Tryz.results34, go_sem]) rfl ⟨by rw [HR.out, H.out]; rfl, HB5.out.drew⟩
            · replace H := hide H
              go_wp2_with fail
              refine wp_still_all (by kernel_rfl) (by kernel_rfl) ?_
              repeat (first | ((with_reducible refine wpStill_step (fun K hK => ?_)); go_simp; (try go_bits); (with_reducible refine hK _ ?_); clear hK K) | ((with_reducible refine wpStill_step (fun K hK => ?_)); go_simp; rw [if_neg (by simp [undef])]; (with_reducible refine hK _ ?_); clear hK K))
              (with_reducible refine wpStill_nil ?_)
              go_wp2
              exact bodyPost_ret (v := .tuple #[.bool false, .int .i64 0]) (by simp [results, Tryz.results34, go_sem]) rfl ⟨by rw [HR.out, H.out]; rfl, HB5.out.drew⟩
            · replace H := hide H
              go_wp2_with fail
              refine wp_still_all (by kernel_rfl) (by kernel_rfl) ?_
              repeat (first | ((with_reducible refine wpStill_step (fun K hK => ?_)); go_simp; (try go_bits); (with_reducible refine hK _ ?_); clear hK K) | ((with_reducible refine wpStill_step (fun K hK => ?_)); go_simp; rw [if_neg (by simp [undef])]; (with_reducible refine hK _ ?_); clear hK K))
              (with_reducible refine wpStill_nil ?_)
              go_wp2
              exact bodyPost_ret (v := .tuple #[.bool false, .int .i64 0]) (by simp [results, Tryz.results34, go_sem]) rfl ⟨by rw [HR.out, H.out]; rfl, HB5.out.drew⟩
            · replace H := hide H
              obtain ⟨hd1, hd2⟩ := HD.out y HYM.out
              have hxu : x.f < x.u := by have := of_decide_eq_false g2; omega
              have hud : x.u ≤ y.due := by have := of_decide_eq_false g3; omega
              have hin : (i : Int) * 1099511627776 ≤ 1099511627776000 := by omega
              have HNX := hide (fun z (hz : z ∈ l) => done_take HX.out z.no)
              have hnew : lfAt s (i + 1) y = lfAt s i y - (x.u - x.f) := by
                unfold lfAt; rw [HNX.out y HYM.out, if_pos HYN.out.symm]; omega
              have hwa : IntKind.i64.wrap (x.u - x.f) = x.u - x.f := by rw [IntKind.wrap_i64]; omega
              have hwb : IntKind.i64.wrap (lfAt s i y - (x.u - x.f)) = lfAt s i y - (x.u - x.f) := by rw [IntKind.wrap_i64]; unfold lfAt; omega
              obtain ⟨wf, hwf⟩ : ∃ wf, w5.setCell ⟨ad y.no, 5, none⟩ (.int .i64 (lfAt s i y - (x.u - x.f))) = wf := ⟨_, rfl⟩
              have hap := map_apart HM5.out t5
              have hBF : Below w.heap.size w wf := by rw [← hwf]; exact HB5.out.setCell (by dsimp only; exact HK5.out.lo y HYM.out) _
              have hMF : MapI Tryz.prog 3 wf w1.heap.size l.length (byNo (adV ad) l) := by rw [← hwf]; exact HM5.out.setCell (fun e => hap e.symm) _
              have hKF : TkN wf w.heap.size l ad (lfAt s (i + 1)) := HK5.out.put HYM.out (by rw [hnew]; exact hwf) (fun z hz hne => by
                unfold lfAt; rw [HNX.out z hz, if_neg (by rw [← HYN.out]; exact fun e => hne e.symm)]; omega) (fun z hz e => no_inj HP.out hz HYM.out e)
              have hDF : ∀ z ∈ l, 0 ≤ doneN z.no (s.take (i + 1)) ∧ doneN z.no (s.take (i + 1)) ≤ ((i + 1 : Nat) : Int) * 1099511627776 := fun z hz => by
                have h1 := HD.out z hz
                rw [HNX.out z hz]
                push_cast
                split <;> omega
              have HF := hide (And.intro hBF.drew.drew (And.intro hMF.drew.drew (And.intro (hKF.bel (Below.refl _ _).drew |>.bel (Below.refl _ _).drew) hDF)))
              have HWF := hide hwf
              clear hnew hap hBF hMF hKF hDF hwf hd1 hd2 hxu hud hin HB5 HM5 HK5 HNX HD HK HM HB
              generalize lfAt s i y = L at *
              go_wp2_with fail
              refine wp_still_all (by kernel_rfl) (by kernel_rfl) ?_
              repeat (first | ((with_reducible refine wpStill_step (fun K hK => ?_)); go_simp; (try go_bits); (with_reducible refine hK _ ?_); clear hK K) | ((with_reducible refine wpStill_step (fun K hK => ?_)); go_simp; rw [if_neg (by simp [undef])]; (with_reducible refine hK _ ?_); clear hK K))
              (with_reducible refine wpStill_nil ?_)
              go_wp2_with fail
              refine wp_still_tail 10 (by kernel_rfl) (by kernel_rfl) ?_
              simp only [List.take_succ_cons, List.take_zero, List.drop_succ_cons, List.drop_zero]
              repeat ((with_reducible refine wpStill_step (fun K hK => ?_)); go_simp; (try go_bits); (with_reducible refine hK _ ?_); clear hK K)
              (with_reducible refine wpStill_nil ?_)
              go_wp2
              rw [HWF.out]
              go_roundw
              case rel => exact ⟨i + 1, x.u, by omega, by go_num, rfl, H, HF.out.2.2.2, HF.out.2.1, HF.out.2.2.1, HF.out.1⟩
              case measure => simp [nI]; omega
        · obtain rfl : i = s.length := by omega
          have hq := HQ.out
          rw [List.drop_length] at hq
          have hacc : accGo l 0 s = true := hq
          have HA : Hid (RR = l.all fun j => decide (lfAt s s.length j = 0)) := hide (by
            rw [HR.out, hacc, Bool.true_and]
            congr 1
            funext j
            unfold lfAt
            rw [List.take_length, Bool.eq_iff_iff, decide_eq_true_eq, decide_eq_true_eq]
            omega)
          obtain ⟨wo, hwo⟩ : ∃ x, x = wr := ⟨_, rfl⟩
          subst hwo
          obtain ⟨D, hown, hm⟩ := HM.out
          have hsz := hown.size_le
          have HB5 := hide HB.out
          have HK5 := hide HK.out
          have hml := hown.lt
          have hwz := HB.out.size
          generalize lfAt s s.length = lf at *
          clear hq hacc HQ HD HM HK HB HR
          go_wp2_with (at_range; refine wpList_range_own _ rfl _ 107 rfl 3 108 (int_keyed Tryz.underlying3) Tryz.underlying107 _ w1.heap.size _ D rfl hown ?_; intro w0 hrg0 hg0 hs0)
          go_frame
          go_loopw [] (fun wr => ∃ (left : Lit → Bool) (cnt : Nat), wr.ranges Tryz.prog 3 anyElem w1.heap.size wo.heap.size l.length D left cnt ∧ (∀ kl, left kl = true → Maps.has D kl = true) ∧ Hid (∀ x ∈ l, left (kI x.no) = false → lf x = 0) ∧ Hid (TkN wr w.heap.size l ad lf) ∧ Hid (Below w.heap.size w wr)) (fun wr => wr.rangeLeft w1.heap.size wo.heap.size)
          case atStart =>
            refine ⟨_, _, hrg0, fun _ h => h, hide (fun x hx h => ?_), hide (HK5.out.grown hg0 (fun x hx => by simp)), hide (HB5.out.grown hg0 hwz (fun k hk => by cases hk))⟩
            have h1 := (hm x.no).1
            rw [h, byNo_mem HP.out hx] at h1
            cases h1
          case round =>
            obtain ⟨left, cnt, hrg, hlh, HLF, HK, HB⟩ := hrel
            have hlo : ∀ x ∈ l, ad x.no < wo.heap.size := fun x hx => (HK5.out.blk x hx).lt
            have HLO := hide hlo
            clear hrg0 hg0 hs0 HK5 HB5 hown hlo
            go_wp2_with (at_next; refine wpList_next_ranges _ rfl _ rfl 3 (int_keyed Tryz.underlying3) anyElem (Value.int .i64) id (fun key kl hkey => by obtain ⟨x, rfl, _⟩ := Maps.keyOf_int_inv Tryz.underlying3 hkey; exact ⟨x, rfl⟩) (fun v y _ => ⟨v, rfl⟩) w1.heap.size wo.heap.size l.length D left cnt rfl hrg ?_ ?_)
            · intro hc0 hl0
              have hRR : RR = true := by
                rw [HA.out, List.all_eq_true]
                exact fun x hx => decide_eq_true (HLF.out x hx (hl0 _))
              have HRR := hide hRR
              clear hRR HA hrg hlh HLF hl0 hm
              go_wp2
              exact bodyPost_ret (v := .tuple #[.bool true, .int .i64 0]) (by simp [results, Tryz.results34, go_sem]) rfl ⟨by rw [HRR.out], HB.out⟩
            · intro x c' kl y1 y2 w3 cnt' hkey hlk hy hat hrg1 hlt hg1 hs1 hen
              obtain ⟨x', ex, rfl, hwx⟩ := Maps.keyOf_int_inv Tryz.underlying3 hkey
              cases ex
              have hhx : Maps.has D (kI x) = true := hlh _ hlk
              have hh2 := (hm x).1
              rw [hhx] at hh2
              obtain ⟨y, hyj⟩ : ∃ y, jobOf l x = some y := by
                unfold byNo at hh2
                cases hj : jobOf l x with
                | none => rw [hj] at hh2; cases hh2
                | some y => exact ⟨y, rfl⟩
              obtain ⟨hym, hyn⟩ := jobOf_some hyj
              have hc' : c' = .pointer (some ⟨ad y.no, 0, none⟩) := by
                have e1 := hat (.held (.pointer none))
                have e2 := (hm x).2 (.pointer none)
                rw [show byNo (adV ad) l x = some (.pointer (some ⟨ad y.no, 0, none⟩)) by unfold byNo; rw [hyj]; rfl] at e2
                simp only [kI] at e2
                rw [e1] at e2
                simp only [anyElem, Option.some.injEq, Prod.mk.injEq] at hy
                rw [← hy.1] at e2
                simpa using e2
              subst hc'
              have hK3 : TkN w3 w.heap.size l ad lf := HK.out.grown hg1 (fun z hz e => by have := HLO.out z hz; have := Option.some.inj e; omega)
              have hB3 : Below w.heap.size w w3 := HB.out.grown hg1 HB.out.size (fun k hk => by cases hk; omega)
              have hL : ∀ kl, (left kl && !kl.sameKey (.int .i64 x)) = true → Maps.has D kl = true := fun kl h => by
                rw [Bool.and_eq_true] at h; exact hlh kl h.1
              have t5 := (hK3.blk y hym).cell (v := .int .i64 (lf y)) 5 rfl
              have tl := (hK3.blk y hym).lt
              have HK3 := hide hK3
              have HB3 := hide hB3
              have HL := hide hL
              have HM := hide hrg
              have HRG := hide hrg1
              have HYM := hide hym
              have HYN := hide hyn
              clear hK3 hB3 hL hrg hrg1 hym hyn hyj hh2 hhx hat hy hkey hlk hwx hlh hm
              by_cases hz : lf y = 0
              · have gz : (lf y != 0) = false := by simp [hz]
                have HS : Hid (∀ z ∈ l, (left (kI z.no) && !(kI z.no).sameKey (.int .i64 x)) = false → lf z = 0) := hide (fun z hzm h => by
                  have e1 : (kI z.no).sameKey (.int .i64 x) = decide (z.no = x) := by simp [kI, Lit.sameKey]
                  rw [e1] at h
                  by_cases e : z.no = x
                  · rw [no_inj HP.out hzm HYM.out (by rw [e, HYN.out])]; exact hz
                  · exact HLF.out z hzm (by simpa [e] using h))
                clear hz
                go_wp2
                go_roundw
                case rel => exact ⟨_, cnt', HRG.out, HL.out, HS, HK3, HB3⟩
                case measure => rw [HRG.out.left_eq, HM.out.left_eq]; exact hlt
              · have gz : (lf y != 0) = true := by simpa using hz
                have hRR : RR = false := by
                  rw [HA.out, List.all_eq_false]
                  exact ⟨y, HYM.out, by simpa using hz⟩
                have HRR := hide hRR
                clear hz hRR
                go_wp2
                exact bodyPost_ret (v := .tuple #[.bool false, .int .i64 0]) (by simp [results, Tryz.results34, go_sem]) rfl ⟨by rw [HRR.out], HB3.out⟩
end Go.Proofs.YtnngemgfochodaaGreat.J
namespace Go.Proofs.YtnngemgfochodaaGreat.J
open Go.Proofs.YtnngemgfochodaaGreat
open Go.RowKit Go.Mine Go.Mine.Q
set_option maxHeartbeats 4000000 in
theorem accepts25 (A : Option Addr) (c : Nat) (l : List Jb) (B : Option Addr) (d : Nat) (s : List Sx) (w : World) (hS : Sl jbC 5 w A c l) (hT0 : Sl sxC 3 w B d s) (hs : s.length ≤ 1000) (hI : ∀ x ∈ s, I64 x.no) :
    Calls Tryz.prog 34 #[.slice A l.length c, .slice B s.length d] w fun e w' => e = .returned (.tuple #[.bool (accR l s).1, .int .i64 (accR l s).2]) ∧ Below w.heap.size w w' := by
  by_cases hz : chk l = 0
  · have := accepts25_good A c l B d s w hS hT0 hz hs hI
    unfold accR; rw [if_pos hz]; exact this
  · have K := hide (check27 A c l w hS)
    have gz : (chk l != 0) = true := by simpa using hz
    unfold accR
    rw [if_neg hz]
    generalize chk l = z at K gz ⊢
    clear hS hT0 hz hI
    go_enter Tryz.func34, Tryz.ntmps34
    go_wp2_with fail
    refine K.out.mono ?_
    rintro e w1 ⟨rfl, hb⟩
    go_wp2
    exact bodyPost_ret (v := .tuple #[.bool false, .int .i64 z]) (by simp [results, Tryz.results34, go_sem]) rfl ⟨rfl, hb⟩
end Go.Proofs.YtnngemgfochodaaGreat.J
