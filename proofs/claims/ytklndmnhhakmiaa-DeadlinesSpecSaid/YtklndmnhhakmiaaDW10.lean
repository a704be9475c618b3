/-
  deadlines: Due of the reference, where it answers.
-/
import Derived.Test.YtklndmnhhakmiaaDW9
namespace Go.Proofs.Ytklndmnhhakmiaa
open Go.RowKit Go.Mine Go.Mine.B
attribute [local go_sem] Oper.semAt_some
theorem Sl.apart {α : Type} {f : α → List Value} {sz : Nat} {w : World} {g off c : Nat} {l : List α} (h : Sl f sz w (some ⟨g, off, none⟩) c l) (p : Addr) (u : Value) (hp : g ≠ p.block) : Sl f sz (w.setCell p u) (some ⟨g, off, none⟩) c l :=
  ⟨h.le, h.max, h.size, fun hn => by
    obtain ⟨g2, off2, e, hg, hc⟩ := h.cells hn
    cases e
    refine ⟨g, off, rfl, by simpa [World.setCell] using hg, fun i v hv => ?_⟩
    rw [← hc i v hv]
    simp only [World.cell?]
    rw [Below.heap_setCell _ _ _ _ hp]⟩
/-- a row of five cells does not lie in a block of four -/
theorem not_four {w : World} {g off c b : Nat} {ty : TypeId} {x0 x1 x2 x3 : Value} {L : List Bu} {i : Nat} {y : Bu} (h : Sl buC 5 w (some ⟨g, off, none⟩) c L) (hy : L[i]? = some y) (hb : Blk w b ty #[x0, x1, x2, x3]) : g ≠ b := by
  intro e
  subst e
  have := bu_q h hy (s := 3) (by omega)
  simp [World.cell?, hb.at_] at this
theorem path17_ok {y : Bu} {s : Nat} (h : rightB y = true) (hs : s < 4) (w : World) : Calls Try.prog 17 #[buV y, .int .i64 (s : Int)] w fun e w' => e = .returned (.tuple #[.int .i64 (path y.q (s : Int)), .int .i64 0]) ∧ Below w.heap.size w w' := by
  have k := path17 y (s : Int) w
  have e : pathR y (s : Int) = (path y.q (s : Int), 0) := by
    unfold pathR
    rw [if_pos h, if_pos (inR_iff.2 ⟨by omega, by omega⟩)]
  rw [e] at k; exact k
set_option maxHeartbeats 4000000 in
theorem due27_good (A : Option Addr) (c : Nat) (b : List Bu) (B : Option Addr) (d : Nat) (l : List Tr) (n u k : Int) (w : World) (hS : Sl buC 5 w A c b) (hT : Sl trC 7 w B d l) (hz : chk 400 b l = 0) (hn : has b n = true) (ht : (timeB u && timeB k) = true) :
    Calls Try.prog 27 #[.slice A b.length c, .slice B l.length d, .int .i64 n, .int .i64 u, .int .i64 k] w (DueE (dueV 400 1 b l n u k) w) := by
  have X0 := hide ((Blk.new w #[.int .i64 0, .int .i64 0, .int .i64 0, .int .i64 0] 24).alloc (.cells #[.int .i64 0, .int .i64 0, .int .i64 0, .int .i64 0] 24))
  have Y0 := hide (Blk.new1 w (.cells #[.int .i64 0, .int .i64 0, .int .i64 0, .int .i64 0] 24) #[.int .i64 0, .int .i64 0, .int .i64 0, .int .i64 0] 24)
  have HB0 := hide (kalloc (kalloc (Below.refl w.heap.size w) (.cells #[.int .i64 0, .int .i64 0, .int .i64 0, .int .i64 0] 24)) (.cells #[.int .i64 0, .int .i64 0, .int .i64 0, .int .i64 0] 24))
  have K19 := hide (check19 A c b B d l _ (hS.bel HB0.out) (hT.bel HB0.out))
  rw [hz] at K19
  obtain ⟨hcb, hbl, hll⟩ := chk_zero' hz
  obtain ⟨i, y, e1, hy, hyn⟩ := ixGo_at (l := b) (n := 0) (p := fun y : Bu => decide (y.lang = n)) hn
  replace hyn := of_decide_eq_true hyn
  rw [Nat.zero_add] at e1
  have K24 := hide (fun W (h : Below w.heap.size w W) => index24 A c b n W (hS.bel h))
  rw [e1] at K24
  simp only [Bool.and_eq_true] at ht
  have KU := hide (fun W => time59 u W)
  have KK := hide (fun W => time59 k W)
  rw [ht.1] at KU
  rw [ht.2] at KK
  have HE := hide (dueV_good (n := n) (u := u) (k := k) hz (by rw [ht.1, ht.2, hn]; rfl))
  have ha := argA_of ht.1 ht.2
  have K21 := hide (fun W (h : Below w.heap.size w W) => standing21 A c b B d l u k W (hS.bel h) (hT.bel h))
  rw [(stand_ok hz ha).1, (stand_ok hz ha).2] at K21
  have hLi : (standing b l u k)[i]? = some ⟨n, stq b l n u k⟩ := by
    unfold standing viewB
    rw [List.getElem?_map, hy]; subst hyn; rfl
  have hq := okQ_stq hcb n u k
  have hrb : rightB ⟨n, stq b l n u k⟩ = true := ok_right hq (by have := (rightB_ok ((chkB_parts hcb).1 y (List.mem_of_getElem? hy))).2; rw [hyn] at this; exact this)
  have hu := timeB_iff.1 ht.1
  have il : i < (standing b l u k).length := (List.getElem?_eq_some_iff.1 hLi).1
  generalize dueV 400 1 b l n u k = R at *
  generalize standing b l u k = L at *
  generalize stq b l n u k = q at *
  have K17 := hide (fun s hs W => path17_ok (s := s) hrb hs W)
  have HP := hide (fun k : Nat => path_ok hq (k : Int))
  rw [← addT_four q u] at HE
  have HLI := hide hLi
  simp only [buV, buC] at K17
  clear hS hT hz hn ht ha e1 hy hyn hq hrb hcb hbl hll hLi
  go_enter Try.func27, Try.ntmps27
  go_wp2_with fail
  refine K19.out.mono ?_
  rintro e w1 ⟨rfl, hb⟩
  have HB1 := hide (kcall HB0.out hb)
  have X := hide (X0.out.bel hb)
  have Y := hide (Y0.out.bel hb)
  clear hb K19 X0 Y0 HB0
  go_wp2_with fail
  refine (K24.out _ HB1.out).mono ?_
  rintro e w2 ⟨rfl, rfl⟩
  go_wp2_with (first | (go_at_call 59; with_reducible refine (KU.out _).mono ?_; rintro e w' ⟨rfl, rfl⟩) | (go_at_call 59; with_reducible refine (KK.out _).mono ?_; rintro e w' ⟨rfl, rfl⟩))
  refine (K21.out _ HB1.out).mono ?_
  rintro e w3 ⟨A9, c9, rfl, h9, hb⟩
  obtain ⟨_, g, off, _, _, rfl, _, _⟩ := Sl.bu_at h9 il
  have HB3 := hide (kcall HB1.out hb)
  have X3 := hide (X.out.bel hb)
  have Y3 := hide (show Blk w3 (w.heap.size + 1) 24 (qC (addT q u 0)).toArray from Y.out.bel hb)
  have hgy := not_four h9 HLI.out (Y.out.bel hb)
  have H9 := hide h9
  have h9l := h9.le
  have h9m := h9.max
  have iz : (i : Int) < (L.length : Int) := by omega
  clear hb h9 K21 K24 KU KK HB1 X Y
  go_wp2
  go_loopw [17, 18, 19] (fun v _ _ wr => ∃ s : Nat, s ≤ 4 ∧ v = .int .i64 s ∧ Hid (Blk wr w.heap.size 24 #[.int .i64 0, .int .i64 0, .int .i64 0, .int .i64 0]) ∧ Hid (Blk wr (w.heap.size + 1) 24 (qC (addT q u s)).toArray) ∧ Hid (Sl buC 5 wr (some ⟨g, off, none⟩) c9 L) ∧ Hid (Below w.heap.size w wr)) (fun v _ _ _ => 4 - (nI v).toNat)
  case atStart => exact ⟨0, by omega, rfl, X3, Y3, H9, HB3⟩
  case round =>
    clear X3 Y3 H9 HB3
    obtain ⟨s, hs, rfl, X, Y, H9, HB⟩ := hrel
    by_cases hs4 : s < 4
    · obtain ⟨y2, _, _, hy2, _, hAA, hgw, p0, p1, p2, p3, p4⟩ := Sl.bu_at H9.out il
      cases hAA
      obtain rfl : y2 = ⟨n, q⟩ := by rw [HLI.out] at hy2; exact (Option.some.inj hy2).symm
      simp only at p0 p1 p2 p3 p4
      have hsz : (s : Int) < 4 := by omega
      have K := hide (K17.out s hs4)
      have hp := HP.out s
      have HA := hide (show addT q u (s + 1) = qs (addT q u s) (s : Int) (u + path q (s : Int)) from rfl)
      have hw : IntKind.i64.wrap (u + path q (s : Int)) = u + path q (s : Int) := by rw [IntKind.wrap_i64]; omega
      generalize path q (s : Int) = v at *
      clear hy2 hs
      go_wp2_with fail
      refine (K.out _).mono ?_
      rintro e w5 ⟨rfl, hb⟩
      have HB5 := hide (kcall HB.out hb)
      have X5 := hide (X.out.bel hb)
      have Y5 := hide (Y.out.bel hb)
      have H5 := hide (H9.out.bel hb)
      clear p0 p1 p2 p3 p4 hgw hb HB X Y H9 K
      have c1 := Y5.out.cell s (qC_get (addT q u s) s hs4)
      have z1 := Y5.out.thaw s
      have hyl := Y5.out.lt
      go_wp2
      go_roundw
      case rel => exact ⟨s + 1, by omega, by go_num, X5.out.far ⟨w.heap.size + 1, s, none⟩ _ (by show w.heap.size ≠ w.heap.size + 1; omega), by rw [HA.out]; exact Y5.out.set s _ (qC_set (addT q u s) s hs4 _), Sl.apart H5.out ⟨w.heap.size + 1, s, none⟩ _ hgy, HB5.out.setCell (p := ⟨w.heap.size + 1, s, none⟩) (Nat.le_succ _) _⟩
      case measure => simp [nI]; omega
    · obtain rfl : s = 4 := by omega
      have Y := hide Y.out
      generalize addT q u 4 = r at *
      obtain ⟨r1, r2, r3, r4⟩ := r
      clear H9 hs
      have hxl := X.out.lt
      have hyl := Y.out.lt
      have c0 := X.out.cell (v := .int .i64 0) 0 rfl
      have t0 := X.out.thaw 0
      have e0 := Y.out.cell (v := .int .i64 r1) 0 rfl
      have c1 := X.out.cell (v := .int .i64 0) 1 rfl
      have t1 := X.out.thaw 1
      have e1 := Y.out.cell (v := .int .i64 r2) 1 rfl
      have c2 := X.out.cell (v := .int .i64 0) 2 rfl
      have t2 := X.out.thaw 2
      have e2 := Y.out.cell (v := .int .i64 r3) 2 rfl
      have c3 := X.out.cell (v := .int .i64 0) 3 rfl
      have t3 := X.out.thaw 3
      have e3 := Y.out.cell (v := .int .i64 r4) 3 rfl
      obtain ⟨wf, hwf, Xf, hBf⟩ := fourQ X.out (.int .i64 r1) (.int .i64 r2) (.int .i64 r3) (.int .i64 r4)
      have HWF := hide hwf
      have HXf := hide Xf
      have HBf := hide (hBf w.heap.size w (Nat.le_refl _) HB.out)
      clear hwf Xf hBf X Y HB
      go_wp2
      rw [HWF.out]
      clear HWF
      have p0 := HXf.out.cell (v := .int .i64 r1) 0 rfl
      have p1 := HXf.out.cell (v := .int .i64 r2) 1 rfl
      have p2 := HXf.out.cell (v := .int .i64 r3) 2 rfl
      have p3 := HXf.out.cell (v := .int .i64 r4) 3 rfl
      refine bodyPost_ret (v := .tuple #[.agg #[.int .i64 r1, .int .i64 r2, .int .i64 r3, .int .i64 r4], .int .i64 0]) (by simp [results, Try.results27, go_sem, p0, p1, p2, p3]) rfl ⟨by rw [HE.out]; rfl, HBf.out⟩
theorem due27 (A : Option Addr) (c : Nat) (b : List Bu) (B : Option Addr) (d : Nat) (l : List Tr) (n u k : Int) (w : World) (hS : Sl buC 5 w A c b) (hT : Sl trC 7 w B d l) :
    Calls Try.prog 27 #[.slice A b.length c, .slice B l.length d, .int .i64 n, .int .i64 u, .int .i64 k] w (DueE (dueV 400 1 b l n u k) w) := by
  by_cases hz : chk 400 b l = 0
  · rcases Bool.eq_false_or_eq_true (has b n) with hn | hn
    · rcases Bool.eq_false_or_eq_true (timeB u && timeB k) with ht | ht
      · exact due27_good A c b B d l n u k w hS hT hz hn ht
      · exact due27_time A c b B d l n u k w hS hT hz hn ht
    · exact due27_none A c b B d l n u k w hS hT hz hn
  · exact due27_bad A c b B d l n u k w hS hT hz
end Go.Proofs.Ytklndmnhhakmiaa
