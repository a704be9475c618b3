/-
  queue: right jobs.
  queue: right jobs, in the reference.
  queue: spans that are too full; small functions.
  queue: is a span too full?
  queue: functions of the reference.
  queue: what is next, and which job is first, in the reference.
  queue: add of the reference.
  queue: add of the reference, where it joins.
  queue: Run of the reference.
-/
import Derived.Test.YtbkokljelopcnaaRows
import Derived.Test.YtbkokljelopcnaaQM1
import Derived.Test.YtbkokljelopcnaaRel
import Derived.Test.YtbkokljelopcnaaBase2
import Derived.Test.YtbkokljelopcnaaBlk
import Derived.Test.YtbkokljelopcnaaPush2
import Derived.BigQuiet
import Derived.Test.YtbkokljelopcnaaOwnAt
namespace Go.Proofs.Ytbkokljelopcnaa
open Go.RowKit Go.Mine Go.Mine.Q
def jbC (x : Jb) : List Value := [.int .i64 x.no, .int .i64 x.ready, .int .i64 x.due, .int .i64 x.need, .bool x.alt]
def jbV (x : Jb) : Value := .agg (jbC x).toArray
def sxC (x : Sx) : List Value := [.int .i64 x.no, .int .i64 x.f, .int .i64 x.u]
def sxV (x : Sx) : Value := .agg (sxC x).toArray
theorem Sl.jb_at {w : World} {A : Option Addr} {c : Nat} {l : List Jb} (h : Sl jbC 5 w A c l) {k : Nat} (hk : k < l.length) : ∃ (x : Jb) (b off : Nat), l[k]? = some x ∧ l.drop k = x :: l.drop (k + 1) ∧ A = some ⟨b, off, none⟩ ∧ b < w.heap.size ∧
    w.cell? ⟨b, off + k * 5, none⟩ = some (.int .i64 x.no) ∧ w.cell? ⟨b, off + k * 5 + 1, none⟩ = some (.int .i64 x.ready) ∧ w.cell? ⟨b, off + k * 5 + 2, none⟩ = some (.int .i64 x.due) ∧ w.cell? ⟨b, off + k * 5 + 3, none⟩ = some (.int .i64 x.need) ∧ w.cell? ⟨b, off + k * 5 + 4, none⟩ = some (.bool x.alt) := by
  obtain ⟨x, b, off, hx, hd, e, hb, hc⟩ := h.at_ hk
  exact ⟨x, b, off, hx, hd, e, hb, by simpa using hc 0 _ rfl, hc 1 _ rfl, hc 2 _ rfl, hc 3 _ rfl, hc 4 _ rfl⟩
theorem Sl.sx_at {w : World} {A : Option Addr} {c : Nat} {l : List Sx} (h : Sl sxC 3 w A c l) {k : Nat} (hk : k < l.length) : ∃ (x : Sx) (b off : Nat), l[k]? = some x ∧ l.drop k = x :: l.drop (k + 1) ∧ A = some ⟨b, off, none⟩ ∧ b < w.heap.size ∧
    w.cell? ⟨b, off + k * 3, none⟩ = some (.int .i64 x.no) ∧ w.cell? ⟨b, off + k * 3 + 1, none⟩ = some (.int .i64 x.f) ∧ w.cell? ⟨b, off + k * 3 + 2, none⟩ = some (.int .i64 x.u) := by
  obtain ⟨x, b, off, hx, hd, e, hb, hc⟩ := h.at_ hk
  exact ⟨x, b, off, hx, hd, e, hb, by simpa using hc 0 _ rfl, hc 1 _ rfl, hc 2 _ rfl⟩
/-- what lies below a block is kept -/
theorem _root_.Go.Mine.Sl.under {α : Type} {f : α → List Value} {sz : Nat} {w w' : World} {A : Option Addr} {c p : Nat} {l : List α} (h : Sl f sz w A c l) (hb : Below p w w') (hA : l ≠ [] → ∀ b off, A = some ⟨b, off, none⟩ → b < p) : Sl f sz w' A c l :=
  ⟨h.le, h.max, h.size, fun hn => by
    obtain ⟨b, off, e, hbw, hc⟩ := h.cells hn
    exact ⟨b, off, e, Nat.lt_of_lt_of_le hbw hb.size, fun i v hv => (hb.cell (p := ⟨b, off + i, none⟩) (hA hn b off e)).trans (hc i v hv)⟩⟩
def fineB (m : Int) (x : Jb) : Bool := decide (m < x.no) && (decide (x.no ≤ 1048576) && (decide (0 ≤ x.ready) && (decide (x.ready < x.due) && (decide (x.due ≤ 1099511627776) && (decide (0 < x.need) && (decide (x.need ≤ 1048576)))))))
def okGo : Int → List Jb → Bool
  | _, [] => true
  | m, x :: l => fineB m x && okGo x.no l
theorem okGo_is : ∀ (l : List Jb) (m : Int), -1 ≤ m → okGo m l = (l.all rightJ && incJ m l)
  | [], m, _ => rfl
  | x :: l, m, hm => by
    simp only [okGo, List.all_cons, incJ]
    have e : fineB m x = (rightJ x && decide (m < x.no)) := by
      rw [Bool.eq_iff_iff]
      simp only [fineB, rightJ, Bool.and_eq_true, decide_eq_true_eq]
      omega
    rw [e]
    by_cases h : m < x.no
    · rw [okGo_is l x.no (by omega)]
      cases rightJ x <;> cases l.all rightJ <;> cases incJ x.no l <;> simp
    · rw [decide_eq_false h]; simp
theorem okGo_ok (l : List Jb) : okGo (-1) l = okL l := okGo_is l (-1) (by omega)
theorem chain7 : ∀ (a b c d e f g : Bool), (a = false) ∨ (a = true ∧ b = false) ∨ (a = true ∧ b = true ∧ c = false) ∨ (a = true ∧ b = true ∧ c = true ∧ d = false) ∨ (a = true ∧ b = true ∧ c = true ∧ d = true ∧ e = false) ∨ (a = true ∧ b = true ∧ c = true ∧ d = true ∧ e = true ∧ f = false) ∨ (a = true ∧ b = true ∧ c = true ∧ d = true ∧ e = true ∧ f = true ∧ g = false) ∨ (a = true ∧ b = true ∧ c = true ∧ d = true ∧ e = true ∧ f = true ∧ g = true) := by
  intro a b c d e f g; cases a <;> cases b <;> cases c <;> cases d <;> cases e <;> cases f <;> cases g <;> simp
set_option maxHeartbeats 2000000 in
theorem odd47 (x : Jb) (m : Int) (p : Nat) (w : World) (hp : Blk w p 3 #[.int .i64 m]) :
    Calls Try.prog 47 #[jbV x, .pointer (some ⟨p, 0, none⟩)] w fun e w' => e = .returned (.bool (!fineB m x)) ∧ Blk w' p 3 #[.int .i64 x.no] ∧ Below p w w' := by
  have HE := (show fineB m x = (decide (m < x.no) && (decide (x.no ≤ 1048576) && (decide (0 ≤ x.ready) && (decide (x.ready < x.due) && (decide (x.due ≤ 1099511627776) && (decide (0 < x.need) && (decide (x.need ≤ 1048576)))))))) from rfl)
  generalize fineB m x = R at HE ⊢
  have H1 := hide ((hp.set 0 (.int .i64 x.no) rfl).alloc (.cells #[.int .i64 x.no, .int .i64 x.ready, .int .i64 x.due, .int .i64 x.need, .bool x.alt] 39))
  have H2 := hide (((Below.refl p w).setCell (p := ⟨p, 0, none⟩) (Nat.le_refl _) (.int .i64 x.no)).alloc (by have := hp.lt; simp [World.setCell]; omega) (.cells #[.int .i64 x.no, .int .i64 x.ready, .int .i64 x.due, .int .i64 x.need, .bool x.alt] 39))
  have c0 := hp.cell (v := .int .i64 m) 0 rfl
  have z0 := hp.thaw 0
  have hpl := hp.lt
  simp only [jbV, jbC]
  clear hp
  have hc := chain7 (decide (m < x.no)) (decide (x.no ≤ 1048576)) (decide (0 ≤ x.ready)) (decide (x.ready < x.due)) (decide (x.due ≤ 1099511627776)) (decide (0 < x.need)) (decide (x.need ≤ 1048576))
  rcases hc with g1 | ⟨g1, g2⟩ | ⟨g1, g2, g3⟩ | ⟨g1, g2, g3, g4⟩ | ⟨g1, g2, g3, g4, g5⟩ | ⟨g1, g2, g3, g4, g5, g6⟩ | ⟨g1, g2, g3, g4, g5, g6, g7⟩ | ⟨g1, g2, g3, g4, g5, g6, g7⟩
  · rw [g1] at HE
    have HE := hide HE
    go_enter Try.func47, Try.ntmps47
    go_wp2
    go_ret
    exact ⟨ret_bool (by rw [HE.out]; rfl), H1.out, H2.out⟩
  · rw [g1, g2] at HE
    have HE := hide HE
    go_enter Try.func47, Try.ntmps47
    go_wp2
    go_ret
    exact ⟨ret_bool (by rw [HE.out]; rfl), H1.out, H2.out⟩
  · rw [g1, g2, g3] at HE
    have HE := hide HE
    go_enter Try.func47, Try.ntmps47
    go_wp2
    go_ret
    exact ⟨ret_bool (by rw [HE.out]; rfl), H1.out, H2.out⟩
  · rw [g1, g2, g3, g4] at HE
    have HE := hide HE
    go_enter Try.func47, Try.ntmps47
    go_wp2
    go_ret
    exact ⟨ret_bool (by rw [HE.out]; rfl), H1.out, H2.out⟩
  · rw [g1, g2, g3, g4, g5] at HE
    have HE := hide HE
    go_enter Try.func47, Try.ntmps47
    go_wp2
    go_ret
    exact ⟨ret_bool (by rw [HE.out]; rfl), H1.out, H2.out⟩
  · rw [g1, g2, g3, g4, g5, g6] at HE
    have HE := hide HE
    go_enter Try.func47, Try.ntmps47
    go_wp2
    go_ret
    exact ⟨ret_bool (by rw [HE.out]; rfl), H1.out, H2.out⟩
  · rw [g1, g2, g3, g4, g5, g6, g7] at HE
    have HE := hide HE
    go_enter Try.func47, Try.ntmps47
    go_wp2
    go_ret
    exact ⟨ret_bool (by rw [HE.out]; rfl), H1.out, H2.out⟩
  · rw [g1, g2, g3, g4, g5, g6, g7] at HE
    have HE := hide HE
    go_enter Try.func47, Try.ntmps47
    go_wp2
    go_ret
    exact ⟨ret_bool (by rw [HE.out]; rfl), H1.out, H2.out⟩
set_option maxHeartbeats 2000000 in
theorem index59 (A : Option Addr) (c : Nat) (l : List Jb) (m : Int) (p : Nat) (w : World) (hS : Sl jbC 5 w A c l) (hp : Blk w p 3 #[.int .i64 m]) (hA : l ≠ [] → ∀ b off, A = some ⟨b, off, none⟩ → b < p) :
    Calls Try.prog 59 #[.slice A l.length c, .func (.func 47) #[] #[.pointer (some ⟨p, 0, none⟩)]] w fun e w' => (∃ i : Int, e = .returned (.int .i64 i) ∧ decide (0 ≤ i) = !okGo m l) ∧ Below p w w' := by
  have hlc := hS.le
  have hc := hS.max
  have K := hide (fun x m w hp => odd47 x m p w hp)
  have HS := hide hS
  have HP := hide hp
  have hpl := hp.lt
  clear hS hp
  go_enter Try.func59, Try.ntmps59
  go_wp2
  go_loopw [5, 8] (fun _ i wr => ∃ (k : Nat) (m' : Int), k ≤ l.length ∧ i = .int .i64 k ∧ Hid (okGo m l = okGo m' (l.drop k)) ∧ Hid (Blk wr p 3 #[.int .i64 m']) ∧ Hid (Below p w wr)) (fun _ i _ => l.length - (nI i).toNat)
  case atStart => exact ⟨0, m, Nat.zero_le _, rfl, rfl, HP, Below.refl _ _⟩
  case round =>
    clear HP
    obtain ⟨k, m', hk, rfl, HQ, HP, HB⟩ := hrel
    by_cases hlt : k < l.length
    · obtain ⟨x0, b0, off0, _, _, rfl, _⟩ := Sl.jb_at HS.out hlt
      have hbp := hA (by intro e; subst e; simp at hlt) b0 off0 rfl
      obtain ⟨x, b, off, hx, hdr, hAA, hbw, c0, c1, c2, c3, c4⟩ := Sl.jb_at (HS.out.under HB.out (fun _ b off e => by cases e; exact hbp)) hlt
      cases hAA
      have hq := HQ.out
      rw [hdr, okGo] at hq
      have K1 := hide (K.out x m' wr HP.out)
      generalize fineB m' x = r at K1 hq
      simp only [jbV, jbC] at K1
      clear hdr hx HQ
      cases r
      · rw [Bool.false_and] at hq
        have H := hide hq
        clear hq
        go_wp2_with fail
        refine (K1.out).mono ?_
        rintro e w' ⟨rfl, hb1, hb2⟩
        have HBe := hide (HB.out.trans hb2)
        clear hb1 hb2 HB c0 c1 c2 c3 c4
        go_wp2
        go_ret
        exact ⟨⟨_, rfl, by rw [H.out]; simp⟩, HBe.out⟩
      · rw [Bool.true_and] at hq
        have H := hide hq
        clear hq
        go_wp2_with fail
        refine (K1.out).mono ?_
        rintro e w' ⟨rfl, hb1, hb2⟩
        have HBe := hide (HB.out.trans hb2)
        have HP1 := hide hb1
        clear hb1 hb2 HB c0 c1 c2 c3 c4
        go_wp2
        go_roundw
        case rel => exact ⟨k + 1, _, by omega, by go_num, H, HP1, HBe⟩
        case measure => simp [nI]; omega
    · have hq := HQ.out
      rw [List.drop_of_length_le (by omega)] at hq
      have H := hide hq
      clear hq
      go_wp2
      go_ret
      exact ⟨⟨_, rfl, by rw [H.out]; rfl⟩, HB.out⟩
theorem contains48 (A : Option Addr) (c : Nat) (l : List Jb) (m : Int) (p : Nat) (w : World) (hS : Sl jbC 5 w A c l) (hp : Blk w p 3 #[.int .i64 m]) (hA : l ≠ [] → ∀ b off, A = some ⟨b, off, none⟩ → b < p) :
    Calls Try.prog 48 #[.slice A l.length c, .func (.func 47) #[] #[.pointer (some ⟨p, 0, none⟩)]] w fun e w' => e = .returned (.bool (!okGo m l)) ∧ Below p w w' := by
  have K := hide (index59 A c l m p w hS hp hA)
  generalize okGo m l = r at K
  clear hp hS hA
  go_enter Try.func48, Try.ntmps48
  go_wp2_with fail
  refine (K.out).mono ?_
  rintro e w' ⟨⟨i, rfl, hi⟩, hb⟩
  have HB := hide hb
  clear hb K
  go_wp2
  go_ret
  exact ⟨ret_bool (by first | rfl | exact hi), HB.out⟩
theorem check27 (A : Option Addr) (c : Nat) (l : List Jb) (w : World) (hS : Sl jbC 5 w A c l) :
    Calls Try.prog 27 #[.slice A l.length c] w fun e w' => e = .returned (.int .i64 (chk l)) ∧ Below w.heap.size w w' := by
  have hlc := hS.le
  have hc := hS.max
  by_cases h4 : 64 < l.length
  · have E := hide (show chk l = 2 by unfold chk; rw [if_pos h4])
    have g4 : decide ((64 : Int) < l.length) = true := by simp; omega
    generalize chk l = R at E ⊢
    clear hS
    go_enter Try.func27, Try.ntmps27
    go_wp2
    go_ret
    exact ⟨ret_int E.out.symm, Below.refl _ _⟩
  · have g4 : decide ((64 : Int) < l.length) = false := by simp; omega
    have E := hide (show chk l = if okGo (-1) l = true then 0 else 420 by unfold chk; rw [if_neg h4, okGo_ok])
    have hA : l ≠ [] → ∀ b off, A = some ⟨b, off, none⟩ → b < w.heap.size := fun hn b off e => by
      obtain ⟨b1, off1, e1, hb, _⟩ := hS.cells hn
      rw [e] at e1; cases e1; exact hb
    have K := hide (contains48 A c l (-1) w.heap.size (w.alloc (.cells #[.int .i64 (-1)] 3)) (hS.alloc _) (Blk.new w _ 3) hA)
    generalize okGo (-1) l = r at K E
    generalize chk l = R at E ⊢
    clear hS hA
    cases r
    all_goals
      go_enter Try.func27, Try.ntmps27
      go_wp2_with fail
      refine (K.out).mono ?_
      rintro e w' ⟨rfl, hb⟩
      have HB := hide (((Below.refl w.heap.size w).alloc (Nat.le_refl _) (.cells #[.int .i64 (-1)] 3)).trans hb)
      clear hb K
      go_wp2
      go_ret
      exact ⟨ret_int (by rw [E.out]; rfl), HB.out⟩
end Go.Proofs.Ytbkokljelopcnaa
namespace Go.Proofs.Ytbkokljelopcnaa
open Go.RowKit Go.Mine Go.Mine.Q
theorem chain7' : ∀ (a b c d e f g : Bool), (a = true) ∨ (a = false ∧ b = true) ∨ (a = false ∧ b = false ∧ c = true) ∨ (a = false ∧ b = false ∧ c = false ∧ d = true) ∨ (a = false ∧ b = false ∧ c = false ∧ d = false ∧ e = true) ∨ (a = false ∧ b = false ∧ c = false ∧ d = false ∧ e = false ∧ f = true) ∨ (a = false ∧ b = false ∧ c = false ∧ d = false ∧ e = false ∧ f = false ∧ g = true) ∨ (a = false ∧ b = false ∧ c = false ∧ d = false ∧ e = false ∧ f = false ∧ g = false) := by
  intro a b c d e f g; cases a <;> cases b <;> cases c <;> cases d <;> cases e <;> cases f <;> cases g <;> simp
theorem fine_ref (x : Jb) (m : Int) (hm : -1 ≤ m) : fineB m x = (!decide (x.no < 0) && (!decide (1048576 < x.no) && (!decide (x.ready < 0) && (!decide (x.due ≤ x.ready) && (!decide (1099511627776 < x.due) && (!decide (x.need < 1) && (!decide (1048576 < x.need) && decide (m < x.no)))))))) := by
  rw [Bool.eq_iff_iff]
  simp only [fineB, Bool.and_eq_true, decide_eq_true_eq, Bool.not_eq_true', decide_eq_false_iff_not]
  omega
set_option maxRecDepth 100000 in
set_option maxHeartbeats 4000000 in
theorem check28_few (A : Option Addr) (c : Nat) (l : List Jb) (w : World) (hS : Sl jbC 5 w A c l) (h4 : ¬ 64 < l.length) :
    Calls Try.prog 28 #[.slice A l.length c] w fun e w' => e = .returned (.int .i64 (chk l)) ∧ Below w.heap.size w w' := by
  have hlc := hS.le
  have hc := hS.max
  have gL : decide ((64 : Int) < l.length) = false := by simp; omega
  have E := hide (show chk l = if okGo (-1) l = true then 0 else 420 by unfold chk; rw [if_neg h4, okGo_ok])
  generalize chk l = R at E ⊢
  have HS := hide hS
  clear hS
  go_enter Try.func28, Try.ntmps28
  go_wp2
  go_loopw [3, 4] (fun i _ wr => ∃ (k : Nat) (m : Int), k ≤ l.length ∧ i = .int .i64 k ∧ Hid (-1 ≤ m ∧ (k = 0 → m = -1) ∧ ∀ q y, k = q + 1 → l[q]? = some y → m = y.no) ∧ Hid (okGo (-1) l = okGo m (l.drop k)) ∧ Hid (Below w.heap.size w wr)) (fun i _ _ => l.length - (nI i).toNat)
  case atStart => exact ⟨0, -1, Nat.zero_le _, rfl, ⟨Int.le_refl _, fun _ => rfl, fun q y h => by omega⟩, rfl, Below.refl _ _⟩
  case round =>
    obtain ⟨k, m, hk, rfl, HM, HQ, HB⟩ := hrel
    by_cases hlt : k < l.length
    · obtain ⟨x, b, off, hx, hdr, hA, hbw, p0, p1, p2, p3, p4⟩ := Sl.jb_at (HS.out.bel HB.out) hlt
      have hq := HQ.out
      rw [hdr, okGo] at hq
      have hf := fine_ref x m HM.out.1
      have kz : (k : Int) < (l.length : Int) := by omega
      have HB2 := hide (kalloc HB.out (.cells #[.int .i64 x.no, .int .i64 x.ready, .int .i64 x.due, .int .i64 x.need, .bool x.alt] 39)).drew
      have HX := hide hx
      have hch := chain7' (decide (x.no < 0)) (decide (1048576 < x.no)) (decide (x.ready < 0)) (decide (x.due ≤ x.ready)) (decide (1099511627776 < x.due)) (decide (x.need < 1)) (decide (1048576 < x.need))
      rcases hch with g1 | ⟨g1, g2⟩ | ⟨g1, g2, g3⟩ | ⟨g1, g2, g3, g4⟩ | ⟨g1, g2, g3, g4, g5⟩ | ⟨g1, g2, g3, g4, g5, g6⟩ | ⟨g1, g2, g3, g4, g5, g6, g7⟩ | ⟨g1, g2, g3, g4, g5, g6, g7⟩
      · subst hA
        rw [g1] at hf
        simp only [Bool.not_true, Bool.false_and] at hf
        rw [hf, Bool.false_and] at hq
        have H := hide hq
        clear hq hf hx hdr HM HQ HX
        go_wp2_with fail
        refine wp_still_all (by kernel_rfl) (by kernel_rfl) ?_
        repeat (first | ((with_reducible refine wpStill_step (fun K hK => ?_)); go_simp; (try go_bits); (with_reducible refine hK _ ?_); clear hK K) | ((with_reducible refine wpStill_step (fun K hK => ?_)); go_simp; rw [if_neg (by simp [undef])]; (with_reducible refine hK _ ?_); clear hK K))
        (with_reducible refine wpStill_nil ?_)
        go_wp2
        go_ret
        exact ⟨ret_int (by rw [E.out, H.out]; rfl), HB2⟩
      · subst hA
        rw [g1, g2] at hf
        simp only [Bool.not_true, Bool.not_false, Bool.true_and, Bool.false_and] at hf
        rw [hf, Bool.false_and] at hq
        have H := hide hq
        clear hq hf hx hdr HM HQ HX
        go_wp2_with fail
        refine wp_still_all (by kernel_rfl) (by kernel_rfl) ?_
        repeat (first | ((with_reducible refine wpStill_step (fun K hK => ?_)); go_simp; (try go_bits); (with_reducible refine hK _ ?_); clear hK K) | ((with_reducible refine wpStill_step (fun K hK => ?_)); go_simp; rw [if_neg (by simp [undef])]; (with_reducible refine hK _ ?_); clear hK K))
        (with_reducible refine wpStill_nil ?_)
        go_wp2
        go_ret
        exact ⟨ret_int (by rw [E.out, H.out]; rfl), HB2⟩
      · subst hA
        rw [g1, g2, g3] at hf
        simp only [Bool.not_true, Bool.not_false, Bool.true_and, Bool.false_and] at hf
        rw [hf, Bool.false_and] at hq
        have H := hide hq
        clear hq hf hx hdr HM HQ HX
        go_wp2_with fail
        refine wp_still_all (by kernel_rfl) (by kernel_rfl) ?_
        repeat (first | ((with_reducible refine wpStill_step (fun K hK => ?_)); go_simp; (try go_bits); (with_reducible refine hK _ ?_); clear hK K) | ((with_reducible refine wpStill_step (fun K hK => ?_)); go_simp; rw [if_neg (by simp [undef])]; (with_reducible refine hK _ ?_); clear hK K))
        (with_reducible refine wpStill_nil ?_)
        go_wp2
        go_ret
        exact ⟨ret_int (by rw [E.out, H.out]; rfl), HB2⟩
      · subst hA
        rw [g1, g2, g3, g4] at hf
        simp only [Bool.not_true, Bool.not_false, Bool.true_and, Bool.false_and] at hf
        rw [hf, Bool.false_and] at hq
        have H := hide hq
        clear hq hf hx hdr HM HQ HX
        go_wp2_with fail
        refine wp_still_all (by kernel_rfl) (by kernel_rfl) ?_
        repeat (first | ((with_reducible refine wpStill_step (fun K hK => ?_)); go_simp; (try go_bits); (with_reducible refine hK _ ?_); clear hK K) | ((with_reducible refine wpStill_step (fun K hK => ?_)); go_simp; rw [if_neg (by simp [undef])]; (with_reducible refine hK _ ?_); clear hK K))
        (with_reducible refine wpStill_nil ?_)
        go_wp2
        go_ret
        exact ⟨ret_int (by rw [E.out, H.out]; rfl), HB2⟩
      · subst hA
        rw [g1, g2, g3, g4, g5] at hf
        simp only [Bool.not_true, Bool.not_false, Bool.true_and, Bool.false_and] at hf
        rw [hf, Bool.false_and] at hq
        have H := hide hq
        clear hq hf hx hdr HM HQ HX
        go_wp2_with fail
        refine wp_still_all (by kernel_rfl) (by kernel_rfl) ?_
        repeat (first | ((with_reducible refine wpStill_step (fun K hK => ?_)); go_simp; (try go_bits); (with_reducible refine hK _ ?_); clear hK K) | ((with_reducible refine wpStill_step (fun K hK => ?_)); go_simp; rw [if_neg (by simp [undef])]; (with_reducible refine hK _ ?_); clear hK K))
        (with_reducible refine wpStill_nil ?_)
        go_wp2
        go_ret
        exact ⟨ret_int (by rw [E.out, H.out]; rfl), HB2⟩
      · subst hA
        rw [g1, g2, g3, g4, g5, g6] at hf
        simp only [Bool.not_true, Bool.not_false, Bool.true_and, Bool.false_and] at hf
        rw [hf, Bool.false_and] at hq
        have H := hide hq
        clear hq hf hx hdr HM HQ HX
        go_wp2_with fail
        refine wp_still_all (by kernel_rfl) (by kernel_rfl) ?_
        repeat (first | ((with_reducible refine wpStill_step (fun K hK => ?_)); go_simp; (try go_bits); (with_reducible refine hK _ ?_); clear hK K) | ((with_reducible refine wpStill_step (fun K hK => ?_)); go_simp; rw [if_neg (by simp [undef])]; (with_reducible refine hK _ ?_); clear hK K))
        (with_reducible refine wpStill_nil ?_)
        go_wp2
        go_ret
        exact ⟨ret_int (by rw [E.out, H.out]; rfl), HB2⟩
      · subst hA
        rw [g1, g2, g3, g4, g5, g6, g7] at hf
        simp only [Bool.not_true, Bool.not_false, Bool.true_and, Bool.false_and] at hf
        rw [hf, Bool.false_and] at hq
        have H := hide hq
        clear hq hf hx hdr HM HQ HX
        go_wp2_with fail
        refine wp_still_all (by kernel_rfl) (by kernel_rfl) ?_
        repeat (first | ((with_reducible refine wpStill_step (fun K hK => ?_)); go_simp; (try go_bits); (with_reducible refine hK _ ?_); clear hK K) | ((with_reducible refine wpStill_step (fun K hK => ?_)); go_simp; rw [if_neg (by simp [undef])]; (with_reducible refine hK _ ?_); clear hK K))
        (with_reducible refine wpStill_nil ?_)
        go_wp2
        go_ret
        exact ⟨ret_int (by rw [E.out, H.out]; rfl), HB2⟩
      · rw [g1, g2, g3, g4, g5, g6, g7] at hf
        simp only [Bool.not_false, Bool.true_and] at hf
        rcases k with _ | q
        · subst hA
          have hm0 := HM.out.2.1 rfl
          have hn0 : -1 < x.no := by have := of_decide_eq_false g1; omega
          rw [hf, hm0, decide_eq_true hn0, Bool.true_and] at hq
          have H := hide hq
          have HM2 : Hid (-1 ≤ x.no ∧ (0 + 1 = 0 → x.no = -1) ∧ ∀ q y, 0 + 1 = q + 1 → l[q]? = some y → x.no = y.no) := hide ⟨by omega, fun h => by omega, fun q y h hy => by
            obtain rfl : q = 0 := by omega
            rw [HX.out] at hy; rw [Option.some.inj hy]⟩
          simp only [Nat.zero_mul, Nat.add_zero] at p0 p1 p2 p3 p4
          clear hq hf hx hdr HM HQ HX hm0 hn0
          go_wp2_with fail
          refine wp_still_all (by kernel_rfl) (by kernel_rfl) ?_
          repeat (first | ((with_reducible refine wpStill_step (fun K hK => ?_)); go_simp; (try go_bits); (with_reducible refine hK _ ?_); clear hK K) | ((with_reducible refine wpStill_step (fun K hK => ?_)); go_simp; rw [if_neg (by simp [undef])]; (with_reducible refine hK _ ?_); clear hK K))
          (with_reducible refine wpStill_nil ?_)
          go_wp2
          go_roundw
          case rel => exact ⟨1, x.no, by omega, rfl, HM2, H, HB2⟩
          case measure => simp [nI]; omega
        · obtain ⟨y, bb', off', hy, _, hA', hbw', e0, _⟩ := Sl.jb_at (HS.out.bel HB.out) (show q < l.length by omega)
          rw [hA] at hA'
          cases hA'
          subst hA
          have hmq := HM.out.2.2 q y rfl hy
          have hqz : IntKind.i64.wrap (q : Int) = (q : Int) := by rw [IntKind.wrap_i64]; omega
          have hq1 : ((q + 1 : Nat) : Int) = (q : Int) + 1 := by omega
          have hqn : (q : Int) < (l.length : Int) := by omega
          rw [hmq] at hf
          have hn0 : -1 ≤ x.no := by have := of_decide_eq_false g1; omega
          have HM2 : Hid (-1 ≤ x.no ∧ (q + 1 + 1 = 0 → x.no = -1) ∧ ∀ q' y, q + 1 + 1 = q' + 1 → l[q']? = some y → x.no = y.no) := hide ⟨hn0, fun h => by omega, fun q' y h hy => by
            obtain rfl : q' = q + 1 := by omega
            rw [HX.out] at hy; rw [Option.some.inj hy]⟩
          rcases Bool.eq_false_or_eq_true (decide (y.no < x.no)) with hd9 | hd9
          · have hd1 := of_decide_eq_true hd9
            have gd : decide (x.no ≤ y.no) = false := by simp; omega
            rw [hmq, hf, hd9, Bool.true_and] at hq
            have H := hide hq
            clear hq hf hx hdr HM HQ HX hn0 hmq hy hd9 hd1
            go_wp2_with fail
            refine wp_still_all (by kernel_rfl) (by kernel_rfl) ?_
            repeat (first | ((with_reducible refine wpStill_step (fun K hK => ?_)); go_simp; (try go_bits); (with_reducible refine hK _ ?_); clear hK K) | ((with_reducible refine wpStill_step (fun K hK => ?_)); go_simp; rw [if_neg (by simp [undef])]; (with_reducible refine hK _ ?_); clear hK K))
            (with_reducible refine wpStill_nil ?_)
            go_wp2
            go_roundw
            case rel => exact ⟨q + 1 + 1, x.no, by omega, by go_num, HM2, H, HB2⟩
            case measure => simp [nI]; omega
          · have hd1 := of_decide_eq_false hd9
            have gd : decide (x.no ≤ y.no) = true := by simp; omega
            rw [hmq, hf, hd9, Bool.false_and] at hq
            have H := hide hq
            clear hq hf hx hdr HM HQ HX hn0 hmq hy hd9 hd1 HM2
            go_wp2_with fail
            refine wp_still_all (by kernel_rfl) (by kernel_rfl) ?_
            repeat (first | ((with_reducible refine wpStill_step (fun K hK => ?_)); go_simp; (try go_bits); (with_reducible refine hK _ ?_); clear hK K) | ((with_reducible refine wpStill_step (fun K hK => ?_)); go_simp; rw [if_neg (by simp [undef])]; (with_reducible refine hK _ ?_); clear hK K))
            (with_reducible refine wpStill_nil ?_)
            go_wp2
            go_ret
            exact ⟨ret_int (by rw [E.out, H.out]; rfl), HB2⟩
    · have hq := HQ.out
      rw [List.drop_of_length_le (by omega)] at hq
      have H := hide hq
      clear hq
      go_wp2
      go_ret
      exact ⟨ret_int (by rw [E.out, H.out]; rfl), HB.out⟩
theorem check28 (A : Option Addr) (c : Nat) (l : List Jb) (w : World) (hS : Sl jbC 5 w A c l) :
    Calls Try.prog 28 #[.slice A l.length c] w fun e w' => e = .returned (.int .i64 (chk l)) ∧ Below w.heap.size w w' := by
  by_cases h4 : 64 < l.length
  · have hlc := hS.le
    have hc := hS.max
    have E := hide (show chk l = 2 by unfold chk; rw [if_pos h4])
    have g4 : decide ((64 : Int) < l.length) = true := by simp; omega
    generalize chk l = R at E ⊢
    clear hS
    go_enter Try.func28, Try.ntmps28
    go_wp2
    go_ret
    exact ⟨ret_int E.out.symm, Below.refl _ _⟩
  · exact check28_few A c l w hS h4
end Go.Proofs.Ytbkokljelopcnaa
namespace Go.Proofs.Ytbkokljelopcnaa
open Go.RowKit Go.Mine Go.Mine.Q
def fewB (l : List Jb) (s : List Sx) : Bool := decide (l.length ≤ 70) && decide (s.length ≤ 300)
theorem few16 (A B : Option Addr) (c d : Nat) (l : List Jb) (s : List Sx) (w : World) (hS : Sl jbC 5 w A c l) (hT : Sl sxC 3 w B d s) :
    Calls Try.prog 16 #[.slice A l.length c, .slice B s.length d] w fun e w' => e = .returned (.bool (fewB l s)) ∧ w = w' := by
  have hlc := hS.le
  have hc := hS.max
  have hld := hT.le
  have hd := hT.max
  have HE := (show fewB l s = (decide (l.length ≤ 70) && decide (s.length ≤ 300)) from rfl)
  generalize fewB l s = R at HE ⊢
  clear hS hT
  by_cases h1 : l.length ≤ 70
  · by_cases h2 : s.length ≤ 300
    all_goals
      rw [decide_eq_true h1] at HE
      first | rw [decide_eq_true h2] at HE | rw [decide_eq_false h2] at HE
      have HE := hide HE
      go_enter Try.func16, Try.ntmps16
      go_wp2
      go_ret
      exact ⟨ret_bool (by first | (rw [HE.out]; first | rfl | (simp; omega)) | (have := HE.out; simp at this; simp [this])), rfl⟩
  · rw [decide_eq_false h1] at HE
    have HE := hide HE
    go_enter Try.func16, Try.ntmps16
    go_wp2
    go_ret
    exact ⟨ret_bool (by first | (rw [HE.out]; first | rfl | (simp; omega)) | (have := HE.out; simp at this; simp)), rfl⟩
/-! ### the work of a span -/
theorem wrk_take {l : List Jb} {k : Nat} {x : Jb} (h : l[k]? = some x) (a b : Int) : wrk (l.take (k + 1)) a b = wrk (l.take k) a b + (if inS a b x = true then x.need else 0) := by
  unfold wrk
  rw [take_of_get h, sumF_append]
  simp [sumF]
theorem wrk_bound {l : List Jb} (h : ∀ x ∈ l, rightJ x = true) (a b : Int) (k : Nat) : 0 ≤ wrk (l.take k) a b ∧ wrk (l.take k) a b ≤ k * 1048576 := by
  have hr : ∀ y ∈ l.take k, 0 ≤ (if inS a b y = true then y.need else 0) ∧ (if inS a b y = true then y.need else 0) ≤ 1048576 := fun y hy => by
    have := rightJ_iff.1 (h y (List.mem_of_mem_take hy))
    split <;> omega
  refine ⟨sumF_nonneg fun y hy => (hr y hy).1, ?_⟩
  have h1 := sumF_bound (l := l.take k) fun y hy => (hr y hy).2
  have h2 : (l.take k).length ≤ k := by simp; omega
  unfold wrk
  omega
set_option maxHeartbeats 2000000 in
theorem work64 (A : Option Addr) (c : Nat) (l : List Jb) (a b : Int) (w : World) (hS : Sl jbC 5 w A c l) (h : ∀ x ∈ l, rightJ x = true) (h64 : l.length ≤ 64) :
    Calls Try.prog 64 #[.slice A l.length c, .int .i64 a, .int .i64 b] w fun e w' => e = .returned (.int .i64 (wrk l a b)) ∧ w = w' := by
  have hlc := hS.le
  have hc := hS.max
  have HWB := hide (fun k => wrk_bound h a b k)
  have HR := hide h
  clear h
  go_enter Try.func64, Try.ntmps64
  go_wp2
  go_loop [7, 8] (fun n i => ∃ k : Nat, k ≤ l.length ∧ i = .int .i64 k ∧ n = .int .i64 (wrk (l.take k) a b)) (fun _ i => l.length - (nI i).toNat)
  case atStart => exact ⟨0, Nat.zero_le _, rfl, rfl⟩
  case round =>
    obtain ⟨k, hk, rfl, rfl⟩ := hrel
    by_cases hlt : k < l.length
    · obtain ⟨x, bb, off, hx, hdr, rfl, hbw, c0, c1, c2, c3, c4⟩ := Sl.jb_at hS hlt
      have HN := hide (wrk_take hx a b)
      have hb1 := HWB.out k
      have hxr := rightJ_iff.1 (HR.out x (List.mem_of_getElem? hx))
      have kz : (k : Int) < (l.length : Int) := by omega
      have hw : IntKind.i64.wrap (wrk (l.take k) a b + x.need) = wrk (l.take k) a b + x.need := by rw [IntKind.wrap_i64]; omega
      generalize wrk (l.take k) a b = s0 at *
      clear hdr hx hb1 hxr
      rcases Bool.eq_false_or_eq_true (decide (a ≤ x.ready)) with g1 | g1
      · rcases Bool.eq_false_or_eq_true (decide (x.due ≤ b)) with g2 | g2
        · have H2 := hide (HN.out.trans (by rw [if_pos (by unfold inS; rw [g1, g2]; rfl)] : _ = s0 + x.need))
          clear HN
          go_wp2
          go_round
          case rel => exact ⟨k + 1, by omega, by go_num, by rw [H2.out]⟩
          case measure => simp [nI]; omega
        · have H2 := hide (HN.out.trans (by rw [if_neg (by unfold inS; rw [g1, g2]; simp)]; omega : _ = s0))
          clear HN
          go_wp2
          go_round
          case rel => exact ⟨k + 1, by omega, by go_num, by rw [H2.out]⟩
          case measure => simp [nI]; omega
      · have H2 := hide (HN.out.trans (by rw [if_neg (by unfold inS; rw [g1]; simp)]; omega : _ = s0))
        clear HN
        go_wp2
        go_round
        case rel => exact ⟨k + 1, by omega, by go_num, by rw [H2.out]⟩
        case measure => simp [nI]; omega
    · obtain rfl : k = l.length := by omega
      rw [List.take_length]
      go_wp2
      go_ret
      exact ⟨rfl, rfl⟩
end Go.Proofs.Ytbkokljelopcnaa
namespace Go.Proofs.Ytbkokljelopcnaa
open Go.RowKit Go.Mine Go.Mine.Q
theorem chain3 : ∀ (a b c : Bool), (a = true) ∨ (a = false ∧ b = true) ∨ (a = false ∧ b = false ∧ c = true) ∨ (a = false ∧ b = false ∧ c = false) := by
  intro a b c; cases a <;> cases b <;> cases c <;> simp
theorem full_ref (l : List Jb) (f u : Int) : full l f u = (!decide (f < 0) && (!decide (u ≤ f) && (!decide (1099511627776 < u) && decide (u - f < wrk l f u)))) := by
  rw [Bool.eq_iff_iff]
  simp only [full, Bool.and_eq_true, decide_eq_true_eq, Bool.not_eq_true', decide_eq_false_iff_not]
  omega
set_option maxHeartbeats 2000000 in
theorem full40 (A : Option Addr) (c : Nat) (l : List Jb) (f u : Int) (w : World) (hS : Sl jbC 5 w A c l) (h : ∀ x ∈ l, rightJ x = true) (h64 : l.length ≤ 64) :
    Calls Try.prog 40 #[.slice A l.length c, .agg #[.int .i64 f, .int .i64 u]] w fun e w' => e = .returned (.bool (full l f u)) ∧ Below w.heap.size w w' := by
  have hlc := hS.le
  have hc := hS.max
  have HWB := hide (fun k => wrk_bound h f u k)
  have HR := hide h
  have HS := hide hS
  have X0 := Blk.new w #[.int .i64 f, .int .i64 u] 24
  have HB0 := hide (kalloc (Below.refl w.heap.size w) (.cells #[.int .i64 f, .int .i64 u] 24))
  have hf := full_ref l f u
  generalize full l f u = R at hf ⊢
  clear h hS
  rcases chain3 (decide (f < 0)) (decide (u ≤ f)) (decide (1099511627776 < u)) with g1 | ⟨g1, g2⟩ | ⟨g1, g2, g3⟩ | ⟨g1, g2, g3⟩
  case inl =>
    rw [g1] at hf
    have HF := hide hf
    clear hf X0
    go_enter Try.func40, Try.ntmps40
    go_wp2
    go_ret
    exact ⟨ret_bool (by rw [HF.out]; rfl), HB0.out⟩
  case inr.inl =>
    rw [g1, g2] at hf
    have HF := hide hf
    clear hf X0
    go_enter Try.func40, Try.ntmps40
    go_wp2
    go_ret
    exact ⟨ret_bool (by rw [HF.out]; rfl), HB0.out⟩
  case inr.inr.inl =>
    rw [g1, g2, g3] at hf
    have HF := hide hf
    clear hf X0
    go_enter Try.func40, Try.ntmps40
    go_wp2
    go_ret
    exact ⟨ret_bool (by rw [HF.out]; rfl), HB0.out⟩
  case inr.inr.inr =>
    rw [g1, g2, g3] at hf
    simp only [Bool.not_false, Bool.true_and] at hf
    have HF := hide hf
    have b1 := of_decide_eq_false g1
    have b2 := of_decide_eq_false g2
    have b3 := of_decide_eq_false g3
    have hw0 : IntKind.i64.wrap (u - f) = u - f := by rw [IntKind.wrap_i64]; omega
    have X1 := hide X0
    have HBD := hide (show 0 ≤ u - f ∧ u - f ≤ 1099511627776 by omega)
    clear hf X0 b1 b2 b3
    go_enter Try.func40, Try.ntmps40
    go_wp2
    clear g1 g2 g3
    go_loopw [5, 7, 30] (fun n _ i wr => ∃ k : Nat, k ≤ l.length ∧ i = .int .i64 k ∧ n = .int .i64 (u - f - wrk (l.take k) f u) ∧ Hid (Blk wr w.heap.size 24 #[.int .i64 f, .int .i64 u]) ∧ Hid (Below w.heap.size w wr)) (fun _ _ i _ => l.length - (nI i).toNat)
    case atStart => exact ⟨0, Nat.zero_le _, rfl, by simp [wrk, sumF], X1, HB0⟩
    case round =>
      clear X1 HB0
      obtain ⟨k, hk, rfl, rfl, X, HB⟩ := hrel
      by_cases hlt : k < l.length
      · obtain ⟨x, bb, off, hx, hdr, rfl, hbw, c0, c1, c2, c3, c4⟩ := Sl.jb_at (HS.out.bel HB.out) hlt
        have HN := hide (wrk_take hx f u)
        have hb1 := HWB.out k
        have hbd := HBD.out
        have hxr := rightJ_iff.1 (HR.out x (List.mem_of_getElem? hx))
        have kz : (k : Int) < (l.length : Int) := by omega
        have hw : IntKind.i64.wrap (u - f - wrk (l.take k) f u - x.need) = u - f - wrk (l.take k) f u - x.need := by rw [IntKind.wrap_i64]; omega
        have y0 := X.out.cell (v := .int .i64 f) 0 rfl
        have y1 := X.out.cell (v := .int .i64 u) 1 rfl
        have yl := X.out.lt
        have X2 := hide (X.out.alloc (.cells #[.int .i64 x.no, .int .i64 x.ready, .int .i64 x.due, .int .i64 x.need, .bool x.alt] 39))
        have HB2 := hide (kalloc HB.out (.cells #[.int .i64 x.no, .int .i64 x.ready, .int .i64 x.due, .int .i64 x.need, .bool x.alt] 39))
        generalize wrk (l.take k) f u = s0 at *
        clear hdr hx hb1 hxr hbd HB X
        rcases Bool.eq_false_or_eq_true (decide (f ≤ x.ready)) with g1 | g1
        · rcases Bool.eq_false_or_eq_true (decide (x.due ≤ u)) with g2 | g2
          · have H2 := hide (HN.out.trans (by rw [if_pos (by unfold inS; rw [g1, g2]; rfl)] : _ = s0 + x.need))
            clear HN
            go_wp2
            go_roundw
            case rel => exact ⟨k + 1, by omega, by go_num, by rw [H2.out]; congr 1; omega, X2, HB2⟩
            case measure => simp [nI]; omega
          · have H2 := hide (HN.out.trans (by rw [if_neg (by unfold inS; rw [g1, g2]; simp)]; omega : _ = s0))
            clear HN
            go_wp2
            go_roundw
            case rel => exact ⟨k + 1, by omega, by go_num, by rw [H2.out], X2, HB2⟩
            case measure => simp [nI]; omega
        · have H2 := hide (HN.out.trans (by rw [if_neg (by unfold inS; rw [g1]; simp)]; omega : _ = s0))
          clear HN
          go_wp2
          go_roundw
          case rel => exact ⟨k + 1, by omega, by go_num, by rw [H2.out], X2, HB2⟩
          case measure => simp [nI]; omega
      · obtain rfl : k = l.length := by omega
        rw [List.take_length]
        have H2 := hide (HF.out.trans (show decide (u - f < wrk l f u) = decide (u - f - wrk l f u < 0) from decide_eq_decide.2 (by omega)))
        generalize wrk l f u = s0 at *
        clear HF X
        go_wp2
        go_ret
        exact ⟨ret_bool (by rw [H2.out]), HB.out⟩
set_option maxHeartbeats 2000000 in
theorem full41 (A : Option Addr) (c : Nat) (l : List Jb) (f u : Int) (w : World) (hS : Sl jbC 5 w A c l) (h : ∀ x ∈ l, rightJ x = true) (h64 : l.length ≤ 64) :
    Calls Try.prog 41 #[.slice A l.length c, .agg #[.int .i64 f, .int .i64 u]] w fun e w' => e = .returned (.bool (full l f u)) ∧ Below w.heap.size w w' := by
  have hlc := hS.le
  have hc := hS.max
  have X0 := Blk.new w #[.int .i64 f, .int .i64 u] 24
  have hB := (kalloc (Below.refl w.heap.size w) (.cells #[.int .i64 f, .int .i64 u] 24)).drew
  have HB0 := hide hB
  have KW := hide ((work64 A c l f u (w.alloc (.cells #[.int .i64 f, .int .i64 u] 24)).drew (hS.bel hB) h h64).mono fun e w' (h : e = .returned (.int .i64 (wrk l f u)) ∧ (w.alloc (.cells #[.int .i64 f, .int .i64 u] 24)).drew = w') => And.intro h.1 h.2.symm)
  have hf := (show full l f u = (decide (0 ≤ f) && (decide (f < u) && (decide (u ≤ 1099511627776) && decide (u - f < wrk l f u)))) from rfl)
  generalize full l f u = R at hf ⊢
  generalize wrk l f u = s0 at *
  clear h hS hB
  rcases chain3 (!decide (0 ≤ f)) (!decide (f < u)) (!decide (u ≤ 1099511627776)) with g1 | ⟨g1, g2⟩ | ⟨g1, g2, g3⟩ | ⟨g1, g2, g3⟩
  all_goals
    simp only [Bool.not_eq_true', Bool.not_eq_false'] at *
    first | rw [g1, g2, g3] at hf | rw [g1, g2] at hf | rw [g1] at hf
    have HF := hide hf
    have hw0 : f < 0 ∨ u ≤ f ∨ 1099511627776 < u ∨ IntKind.i64.wrap (u - f) = u - f := by
      by_cases b : f < 0 ∨ u ≤ f ∨ 1099511627776 < u
      · omega
      · right; right; right; rw [IntKind.wrap_i64]; omega
    have hw0' := hw0
    clear hf hw0
    go_enter Try.func41, Try.ntmps41
    go_wp2_with fail
    first
    | (have hw : IntKind.i64.wrap (u - f) = u - f := by
         have := of_decide_eq_true g1
         have := of_decide_eq_true g2
         have := of_decide_eq_true g3
         omega
       clear hw0'
       refine wp_still_all (by kernel_rfl) (by kernel_rfl) ?_
       repeat (first | ((with_reducible refine wpStill_step (fun K hK => ?_)); go_simp; (try go_bits); (with_reducible refine hK _ ?_); clear hK K) | ((with_reducible refine wpStill_step (fun K hK => ?_)); go_simp; refine ⟨_, KW.out, ?_⟩; (with_reducible refine hK _ ?_); clear hK K))
       (with_reducible refine wpStill_nil ?_)
       go_wp2
       go_ret
       exact ⟨ret_bool (by rw [HF.out]; rfl), HB0.out⟩)
    | (refine wp_still_all (by kernel_rfl) (by kernel_rfl) ?_
       repeat (first | ((with_reducible refine wpStill_step (fun K hK => ?_)); go_simp; (try go_bits); (with_reducible refine hK _ ?_); clear hK K) | ((with_reducible refine wpStill_step (fun K hK => ?_)); go_simp; rw [if_neg (by simp [undef])]; (with_reducible refine hK _ ?_); clear hK K))
       (with_reducible refine wpStill_nil ?_)
       go_wp2
       go_ret
       exact ⟨ret_bool (by rw [HF.out]; rfl), HB0.out⟩)
/-- what Refutes answers -/
def refR (l : List Jb) (f u : Int) : Bool × Int := if chk l = 0 then (full l f u, 0) else (false, chk l)
theorem right_of {l : List Jb} (h : chk l = 0) : (∀ x ∈ l, rightJ x = true) ∧ l.length ≤ 64 ∧ okL l = true := by
  obtain ⟨h1, h2⟩ := chk_zero.1 h
  exact ⟨(okL_iff.1 h2).1, h1, h2⟩
theorem refutes19 (A : Option Addr) (c : Nat) (l : List Jb) (f u : Int) (w : World) (hS : Sl jbC 5 w A c l) :
    Calls Try.prog 19 #[.slice A l.length c, .agg #[.int .i64 f, .int .i64 u]] w fun e w' => e = .returned (.tuple #[.bool (refR l f u).1, .int .i64 (refR l f u).2]) ∧ Below w.heap.size w w' := by
  have X0 := hide (Blk.new w #[.int .i64 f, .int .i64 u] 24)
  have HB0 := hide (kalloc (Below.refl w.heap.size w) (.cells #[.int .i64 f, .int .i64 u] 24))
  have K := hide (check27 A c l _ (hS.bel HB0.out))
  by_cases hz : chk l = 0
  · obtain ⟨h1, h2, _⟩ := right_of hz
    have K2 := hide (fun W (hb : Below w.heap.size w W) => full40 A c l f u W (hS.bel hb) h1 h2)
    have HE := hide (show refR l f u = (full l f u, 0) by unfold refR; rw [if_pos hz])
    rw [hz] at K
    generalize refR l f u = R at *
    generalize full l f u = r at *
    clear hS
    go_enter Try.func19, Try.ntmps19
    go_wp2_with fail
    refine K.out.mono ?_
    rintro e w1 ⟨rfl, hb⟩
    have HB := hide (kcall HB0.out hb)
    have X := X0.out.bel hb
    have y0 := X.cell (v := .int .i64 f) 0 rfl
    have y1 := X.cell (v := .int .i64 u) 1 rfl
    have yl := X.lt
    clear hb K X0 X HB0
    go_wp2_with fail
    refine (K2.out _ HB.out).mono ?_
    rintro e w2 ⟨rfl, hb⟩
    have HB2 := hide (kcall HB.out hb)
    clear hb K2 y0 y1 yl
    go_wp2
    exact bodyPost_ret (v := .tuple #[.bool r, .int .i64 0]) (by simp [results, Try.results19, go_sem]) rfl ⟨by rw [HE.out], HB2.out⟩
  · have HE := hide (show refR l f u = (false, chk l) by unfold refR; rw [if_neg hz])
    have gz : (chk l != 0) = true := by simpa using hz
    generalize refR l f u = R at *
    generalize chk l = z at *
    clear hS
    go_enter Try.func19, Try.ntmps19
    go_wp2_with fail
    refine K.out.mono ?_
    rintro e w1 ⟨rfl, hb⟩
    have HB := hide (kcall HB0.out hb)
    clear hb K X0 HB0
    go_wp2
    exact bodyPost_ret (v := .tuple #[.bool false, .int .i64 z]) (by simp [results, Try.results19, go_sem]) rfl ⟨by rw [HE.out], HB.out⟩
theorem refutes20 (A : Option Addr) (c : Nat) (l : List Jb) (f u : Int) (w : World) (hS : Sl jbC 5 w A c l) :
    Calls Try.prog 20 #[.slice A l.length c, .agg #[.int .i64 f, .int .i64 u]] w fun e w' => e = .returned (.tuple #[.bool (refR l f u).1, .int .i64 (refR l f u).2]) ∧ Below w.heap.size w w' := by
  have X0 := hide (Blk.new w #[.int .i64 f, .int .i64 u] 24)
  have HB0 := hide (kalloc (Below.refl w.heap.size w) (.cells #[.int .i64 f, .int .i64 u] 24))
  have K := hide (check28 A c l _ (hS.bel HB0.out))
  by_cases hz : chk l = 0
  · obtain ⟨h1, h2, _⟩ := right_of hz
    have K2 := hide (fun W (hb : Below w.heap.size w W) => full41 A c l f u W (hS.bel hb) h1 h2)
    have HE := hide (show refR l f u = (full l f u, 0) by unfold refR; rw [if_pos hz])
    rw [hz] at K
    generalize refR l f u = R at *
    generalize full l f u = r at *
    clear hS
    go_enter Try.func20, Try.ntmps20
    go_wp2_with fail
    refine K.out.mono ?_
    rintro e w1 ⟨rfl, hb⟩
    have HB := hide (kcall HB0.out hb)
    have X := X0.out.bel hb
    have y0 := X.cell (v := .int .i64 f) 0 rfl
    have y1 := X.cell (v := .int .i64 u) 1 rfl
    have yl := X.lt
    clear hb K X0 X HB0
    go_wp2_with fail
    refine (K2.out _ HB.out).mono ?_
    rintro e w2 ⟨rfl, hb⟩
    have HB2 := hide (kcall HB.out hb)
    clear hb K2 y0 y1 yl
    go_wp2
    exact bodyPost_ret (v := .tuple #[.bool r, .int .i64 0]) (by simp [results, Try.results20, go_sem]) rfl ⟨by rw [HE.out], HB2.out⟩
  · have HE := hide (show refR l f u = (false, chk l) by unfold refR; rw [if_neg hz])
    have gz : (chk l != 0) = true := by simpa using hz
    generalize refR l f u = R at *
    generalize chk l = z at *
    clear hS
    go_enter Try.func20, Try.ntmps20
    go_wp2_with fail
    refine K.out.mono ?_
    rintro e w1 ⟨rfl, hb⟩
    have HB := hide (kcall HB0.out hb)
    clear hb K X0 HB0
    go_wp2
    exact bodyPost_ret (v := .tuple #[.bool false, .int .i64 z]) (by simp [results, Try.results20, go_sem]) rfl ⟨by rw [HE.out], HB.out⟩
def rightR (l : List Jb) : Bool := decide (l.length ≤ 70) && decide (chk l = 0)
theorem right21 (A : Option Addr) (c : Nat) (l : List Jb) (w : World) (hS : Sl jbC 5 w A c l) :
    Calls Try.prog 21 #[.slice A l.length c] w fun e w' => e = .returned (.bool (rightR l)) ∧ Below w.heap.size w w' := by
  have K := hide (fun w => few16 A none c 0 l [] w)
  have K2 := hide (check28 A c l w hS)
  have HS := hide hS
  have HE := (show rightR l = (decide (l.length ≤ 70) && decide (chk l = 0)) from rfl)
  have hfe : fewB l [] = decide (l.length ≤ 70) := by unfold fewB; simp
  rw [hfe] at K
  generalize rightR l = R at HE ⊢
  generalize chk l = z at *
  generalize decide (l.length ≤ 70) = r at *
  clear hS hfe
  cases r
  · have HE := hide HE
    go_enter Try.func21, Try.ntmps21
    go_wp2_with fail
    refine (K.out _ HS.out (Sl.nil (by decide))).mono ?_
    rintro e w' ⟨rfl, rfl⟩
    go_wp2
    go_ret
    exact ⟨ret_bool (by rw [HE.out]; rfl), Below.refl _ _⟩
  · have HE := hide HE
    go_enter Try.func21, Try.ntmps21
    go_wp2_with fail
    refine (K.out _ HS.out (Sl.nil (by decide))).mono ?_
    rintro e w' ⟨rfl, rfl⟩
    go_wp2_with fail
    refine K2.out.mono ?_
    rintro e w2 ⟨rfl, hb⟩
    have HB := hide hb
    clear hb
    go_wp2
    go_ret
    exact ⟨ret_bool (by rw [HE.out]; first | rfl | simp), HB.out⟩
end Go.Proofs.Ytbkokljelopcnaa
namespace Go.Proofs.Ytbkokljelopcnaa
open Go.RowKit Go.Mine Go.Mine.Q
set_option maxHeartbeats 4000000 in
theorem same23 (A B : Option Addr) (c d : Nat) (la lb : List Sx) (w : World) (hA : Sl sxC 3 w A c la) (hB : Sl sxC 3 w B d lb) :
    Calls Try.prog 23 #[.slice A la.length c, .slice B lb.length d] w fun e w' => e = .returned (.bool (decide (la = lb))) ∧ Below w.heap.size w w' := by
  have a1 := hA.le
  have a2 := hA.max
  have b1 := hB.le
  have b2 := hB.max
  by_cases hl : la.length = lb.length
  · have g1 : ((la.length : Int) != (lb.length : Int)) = false := by simp [hl]
    have HL := hide hl
    clear hl
    go_enter Try.func23, Try.ntmps23
    go_wp2
    go_loopw [5] (fun i wr => ∃ (k : Nat), k ≤ la.length ∧ i = .int .i64 k ∧ la.take k = lb.take k ∧ Below w.heap.size w wr) (fun i _ => la.length - (nI i).toNat)
    case atStart => exact ⟨0, Nat.zero_le _, rfl, rfl, Below.refl _ _⟩
    case round =>
      obtain ⟨k, hk, rfl, ht, hb⟩ := hrel
      by_cases hlt : k < la.length
      · obtain ⟨x, ba, oa, hx, _, rfl, _, p1, p2, p3⟩ := Sl.sx_at (hA.bel hb) hlt
        obtain ⟨y, bb, ob, hy, _, rfl, _, q1, q2, q3⟩ := Sl.sx_at (hB.bel hb) (show k < lb.length by rw [← HL.out]; exact hlt)
        have hkb : (k : Int) < lb.length := by have := HL.out; omega
        have HT := hide ht
        have HX := hide hx
        have HY := hide hy
        clear ht hx hy hA hB
        by_cases hxy : x = y
        · subst hxy
          (go_wp2_with fail; refine wp_still_all (by kernel_rfl) (by kernel_rfl) ?_; (repeat (first | ((with_reducible refine wpStill_step (fun K hK => ?_)); go_simp; (try go_bits); (with_reducible refine hK _ ?_); clear hK K) | ((with_reducible refine wpStill_step (fun K hK => ?_)); go_simp; rw [if_neg (by simp [undef])]; (with_reducible refine hK _ ?_); clear hK K))); (with_reducible refine wpStill_nil ?_))
          go_wp2
          go_roundw
          case rel => exact ⟨k + 1, by omega, by go_num, by rw [take_of_get HX.out, take_of_get HY.out, HT.out], hb.drew⟩
          case measure => simp [nI]; omega
        · have hne : la ≠ lb := by
            intro e; subst e
            have := HX.out.symm.trans HY.out
            exact hxy (by simpa using this)
          have HN := hide hne
          clear HX HY HT hne
          obtain ⟨x1, x2, x3⟩ := x
          obtain ⟨y1, y2, y3⟩ := y
          simp only at p1 p2 p3 q1 q2 q3
          by_cases h1 : x1 = y1
          · subst h1
            by_cases h2 : x2 = y2
            · subst h2
              by_cases h3 : x3 = y3
              · exact absurd (by rw [h3]) hxy
              · clear hxy
                ((go_wp2_with fail; refine wp_still_all (by kernel_rfl) (by kernel_rfl) ?_; (repeat (first | ((with_reducible refine wpStill_step (fun K hK => ?_)); go_simp; (try go_bits); (with_reducible refine hK _ ?_); clear hK K) | ((with_reducible refine wpStill_step (fun K hK => ?_)); go_simp; rw [if_neg (by simp [undef])]; (with_reducible refine hK _ ?_); clear hK K))); (with_reducible refine wpStill_nil ?_)); go_wp2; go_ret; exact ⟨ret_bool (by simp [HN.out]), hb.drew⟩)
            · clear hxy
              ((go_wp2_with fail; refine wp_still_all (by kernel_rfl) (by kernel_rfl) ?_; (repeat (first | ((with_reducible refine wpStill_step (fun K hK => ?_)); go_simp; (try go_bits); (with_reducible refine hK _ ?_); clear hK K) | ((with_reducible refine wpStill_step (fun K hK => ?_)); go_simp; rw [if_neg (by simp [undef])]; (with_reducible refine hK _ ?_); clear hK K))); (with_reducible refine wpStill_nil ?_)); go_wp2; go_ret; exact ⟨ret_bool (by simp [HN.out]), hb.drew⟩)
          · clear hxy
            ((go_wp2_with fail; refine wp_still_all (by kernel_rfl) (by kernel_rfl) ?_; (repeat (first | ((with_reducible refine wpStill_step (fun K hK => ?_)); go_simp; (try go_bits); (with_reducible refine hK _ ?_); clear hK K) | ((with_reducible refine wpStill_step (fun K hK => ?_)); go_simp; rw [if_neg (by simp [undef])]; (with_reducible refine hK _ ?_); clear hK K))); (with_reducible refine wpStill_nil ?_)); go_wp2; go_ret; exact ⟨ret_bool (by simp [HN.out]), hb.drew⟩)
      · have HT := hide ht
        clear ht
        go_wp2
        go_ret
        refine ⟨ret_bool ?_, hb⟩
        have h := HT.out
        rw [List.take_of_length_le (by omega), List.take_of_length_le (by have := HL.out; omega)] at h
        simp [h]
  · have g1 : ((la.length : Int) != (lb.length : Int)) = true := by rw [bne_iff_ne]; omega
    go_enter Try.func23, Try.ntmps23
    go_wp2
    go_ret
    exact ⟨ret_bool (by simp; intro e; exact hl (by rw [e])), Below.refl _ _⟩
/-- the index of a job -/
def ixJ (l : List Jb) (n : Int) : Nat → Int
  | k => match l with
    | [] => -1
    | x :: r => if x.no = n then (k : Int) else ixJ r n (k + 1)
theorem ixJ_cons (x : Jb) (r : List Jb) (n : Int) (k : Nat) : ixJ (x :: r) n k = if x.no = n then (k : Int) else ixJ r n (k + 1) := by rw [ixJ]
theorem ixJ_nil (n : Int) (k : Nat) : ixJ [] n k = -1 := by rw [ixJ]
theorem ixJ_job : ∀ (l : List Jb) (n : Int) (k : Nat), (ixJ l n k = -1 ∧ jobOf l n = none) ∨ ∃ i x, l[i]? = some x ∧ ixJ l n k = ((k + i : Nat) : Int) ∧ jobOf l n = some x ∧ x.no = n
  | [], n, k => .inl ⟨ixJ_nil n k, rfl⟩
  | x :: r, n, k => by
    rw [ixJ_cons]
    unfold jobOf
    rw [List.find?_cons]
    by_cases h : x.no = n
    · right
      exact ⟨0, x, rfl, by rw [if_pos h]; rfl, by rw [decide_eq_true h], h⟩
    · rw [if_neg h, decide_eq_false h]
      rcases ixJ_job r n (k + 1) with ⟨h1, h2⟩ | ⟨i, y, h1, h2, h3, h4⟩
      · exact .inl ⟨h1, h2⟩
      · exact .inr ⟨i + 1, y, by simpa using h1, by rw [h2]; congr 1; omega, h3, h4⟩
set_option maxHeartbeats 2000000 in
theorem index46 (A : Option Addr) (c : Nat) (l : List Jb) (n : Int) (w : World) (hS : Sl jbC 5 w A c l) :
    Calls Try.prog 46 #[.slice A l.length c, .int .i64 n] w fun e w' => e = .returned (.int .i64 (ixJ l n 0)) ∧ w = w' := by
  have hlc := hS.le
  have hc := hS.max
  go_enter Try.func46, Try.ntmps46
  go_wp2
  go_loop [5] (fun i => ∃ k : Nat, k ≤ l.length ∧ i = .int .i64 k ∧ Hid (ixJ l n 0 = ixJ (l.drop k) n k)) (fun i => l.length - (nI i).toNat)
  case atStart => exact ⟨0, Nat.zero_le _, rfl, rfl⟩
  case round =>
    obtain ⟨k, hk, rfl, HQ⟩ := hrel
    by_cases hlt : k < l.length
    · obtain ⟨x, b, off, hx, hdr, rfl, hbw, c0, _⟩ := Sl.jb_at hS hlt
      have hq := HQ.out
      rw [hdr, ixJ_cons] at hq
      have kz : (k : Int) < (l.length : Int) := by omega
      clear hdr hx HQ
      rcases Bool.eq_false_or_eq_true (x.no == n) with g1 | g1
      · rw [if_pos (by simpa using g1)] at hq
        have H := hide hq
        clear hq
        go_wp2
        go_ret
        exact ⟨ret_int H.out.symm, rfl⟩
      · rw [if_neg (by simpa using g1)] at hq
        have H := hide hq
        clear hq
        go_wp2
        go_round
        case rel => exact ⟨k + 1, by omega, by go_num, H⟩
        case measure => simp [nI]; omega
    · have hq := HQ.out
      rw [List.drop_of_length_le (by omega), ixJ_nil] at hq
      have H := hide hq
      clear hq
      go_wp2
      go_ret
      exact ⟨ret_int H.out.symm, rfl⟩
end Go.Proofs.Ytbkokljelopcnaa
namespace Go.Proofs.Ytbkokljelopcnaa
open Go.RowKit Go.Mine Go.Mine.Q
def nextJ (t : Int) : List Jb → Option Int
  | [] => none
  | x :: l => match nextJ t l with
    | none => if t < x.ready then some x.ready else none
    | some u => if t < x.ready ∧ x.ready < u then some x.ready else some u
theorem next_js (t : Int) : ∀ ts : List Tk, next t ts = nextJ t (js ts)
  | [] => rfl
  | x :: l => by
    show next t (x :: l) = nextJ t (x.j :: js l)
    simp only [next, nextJ, next_js t l]
    cases nextJ t (js l) <;> rfl
/-- the next time, so far -/
def nxF (t : Int) : List Jb → Int → Int
  | [], n => n
  | x :: l, n => nxF t l (if t < x.ready then (if x.ready < n then x.ready else n) else n)
theorem nxF_is (t : Int) : ∀ (l : List Jb) (n : Int), nxF t l n = match nextJ t l with
    | none => n
    | some u => if u < n then u else n
  | [], n => rfl
  | x :: l, n => by
    rw [nxF, nxF_is t l]
    simp only [nextJ]
    cases nextJ t l with
    | none =>
      simp only
      by_cases h : t < x.ready
      · rw [if_pos h, if_pos h]
      · rw [if_neg h, if_neg h]
    | some u =>
      by_cases h : t < x.ready <;> by_cases h2 : x.ready < u <;> simp only [h, h2, and_self, and_true, and_false, if_true, if_false] <;> (repeat' split) <;> omega
/-- a time after all dues, if there is none -/
def nxI (t : Int) (l : List Jb) : Int := (nextJ t l).getD 2199023255552
theorem nextJ_mem {t u : Int} {l : List Jb} (h : nextJ t l = some u) : ∃ y ∈ l, y.ready = u := by
  have h1 : next t (Go.Mine.Q.start l) = some u := by rw [next_js, js_start]; exact h
  obtain ⟨_, ⟨y, hy, hr⟩, _⟩ := next_some h1
  obtain ⟨z, hz, rfl⟩ := List.mem_map.1 hy
  exact ⟨z, hz, hr⟩
theorem nxF_I {l : List Jb} (h : ∀ x ∈ l, rightJ x = true) (t : Int) : nxF t l 2199023255552 = nxI t l := by
  rw [nxF_is]
  unfold nxI
  cases hn : nextJ t l with
  | none => rfl
  | some u =>
    obtain ⟨y, hy, rfl⟩ := nextJ_mem hn
    have := rightJ_iff.1 (h y hy)
    simp only [Option.getD_some]
    rw [if_pos (by omega)]
set_option maxHeartbeats 2000000 in
theorem next44 (A : Option Addr) (c : Nat) (l : List Jb) (t : Int) (w : World) (hS : Sl jbC 5 w A c l) (h : ∀ x ∈ l, rightJ x = true) :
    Calls Try.prog 44 #[.slice A l.length c, .int .i64 t] w fun e w' => e = .returned (.int .i64 (nxI t l)) ∧ w = w' := by
  have hlc := hS.le
  have hc := hS.max
  have HE := hide (nxF_I h t)
  generalize nxI t l = R at HE ⊢
  clear h
  go_enter Try.func44, Try.ntmps44
  go_wp2
  go_loop [5, 6] (fun m i => ∃ (k : Nat) (n : Int), k ≤ l.length ∧ i = .int .i64 k ∧ m = .int .i64 n ∧ Hid (R = nxF t (l.drop k) n)) (fun _ i => l.length - (nI i).toNat)
  case atStart => exact ⟨0, _, Nat.zero_le _, rfl, rfl, HE.out.symm⟩
  case round =>
    obtain ⟨k, n, hk, rfl, rfl, HQ⟩ := hrel
    by_cases hlt : k < l.length
    · obtain ⟨x, b, off, hx, hdr, rfl, hbw, c0, c1, _⟩ := Sl.jb_at hS hlt
      have hq := HQ.out
      rw [hdr, nxF] at hq
      have kz : (k : Int) < (l.length : Int) := by omega
      clear hdr hx HQ
      rcases Bool.eq_false_or_eq_true (decide (t < x.ready)) with g1 | g1
      · have h1 := of_decide_eq_true g1
        rw [if_pos h1] at hq
        clear h1
        by_cases h2 : x.ready < n
        · have hif : (if x.ready < n then x.ready else n) = x.ready := if_pos h2
          rw [hif] at hq
          have H := hide hq
          clear hq
          go_wp2
          go_round
          case rel => exact ⟨k + 1, x.ready, by omega, by go_num, by first | rfl | (simp [h2]; done), H⟩
          case measure => simp [nI]; omega
        · have hif : (if x.ready < n then x.ready else n) = n := if_neg h2
          rw [hif] at hq
          have H := hide hq
          clear hq
          go_wp2
          go_round
          case rel => exact ⟨k + 1, n, by omega, by go_num, by first | rfl | (simp [h2]; done), H⟩
          case measure => simp [nI]; omega
      · have h1 := of_decide_eq_false g1
        rw [if_neg h1] at hq
        have H := hide hq
        clear hq h1
        go_wp2
        go_round
        case rel => exact ⟨k + 1, n, by omega, by go_num, rfl, H⟩
        case measure => simp [nI]; omega
    · have hq := HQ.out
      rw [List.drop_of_length_le (by omega), nxF] at hq
      have H := hide hq
      clear hq
      go_wp2
      go_ret
      exact ⟨ret_int H.out.symm, rfl⟩
/-! ### the first one -/
def tsOf (l : List Jb) (ns : List Int) : List Tk := List.zipWith Tk.mk l ns
theorem tsOf_get {l : List Jb} {ns : List Int} {k : Nat} {x : Jb} {n : Int} (h1 : l[k]? = some x) (h2 : ns[k]? = some n) : (tsOf l ns)[k]? = some ⟨x, n⟩ := by
  unfold tsOf; rw [List.getElem?_zipWith, h1, h2]
theorem tsOf_len {l : List Jb} {ns : List Int} (h : ns.length = l.length) : (tsOf l ns).length = l.length := by unfold tsOf; simp; omega
theorem tsOf_drop (l : List Jb) (ns : List Int) (k : Nat) : (tsOf l ns).drop k = tsOf (l.drop k) (ns.drop k) := by unfold tsOf; rw [List.drop_zipWith]
theorem tsOf_cons (x : Jb) (l : List Jb) (n : Int) (ns : List Int) : tsOf (x :: l) (n :: ns) = ⟨x, n⟩ :: tsOf l ns := rfl
theorem js_tsOf {l : List Jb} {ns : List Int} (h : ns.length = l.length) : js (tsOf l ns) = l := by
  unfold js tsOf
  rw [List.map_zipWith]
  refine List.ext_getElem? fun k => ?_
  rw [List.getElem?_zipWith]
  by_cases hk : k < l.length
  · rw [List.getElem?_eq_getElem hk, List.getElem?_eq_getElem (show k < ns.length by omega)]
  · rw [List.getElem?_eq_none (by omega)]
def bI : Option (Nat × Tk) → Int
  | none => -1
  | some (i, _) => (i : Int)
set_option maxHeartbeats 4000000 in
theorem first43 (A B : Option Addr) (c d : Nat) (l : List Jb) (ns : List Int) (t : Int) (w : World) (hS : Sl jbC 5 w A c l) (hT : Sl ic 1 w B d ns) (hl : ns.length = l.length) :
    Calls Try.prog 43 #[.slice A l.length c, .slice B ns.length d, .int .i64 t] w fun e w' => e = .returned (.int .i64 (bI (pick t (tsOf l ns)))) ∧ Below w.heap.size w w' := by
  have hlc := hS.le
  have hc := hS.max
  have hld := hT.le
  have hd := hT.max
  have HE := hide (show bI (pick t (tsOf l ns)) = bI (pickGo t (tsOf (l.drop 0) (ns.drop 0)) 0 none) from rfl)
  generalize bI (pick t (tsOf l ns)) = R at HE ⊢
  have HL := hide hl
  have HS := hide hS
  have HT := hide hT
  clear hl hS hT
  go_enter Try.func43, Try.ntmps43
  go_wp2
  go_loopw [7, 8] (fun m i wr => ∃ (k : Nat) (best : Option (Nat × Tk)), k ≤ l.length ∧ i = .int .i64 k ∧ m = .int .i64 (bI best) ∧ Hid (R = bI (pickGo t (tsOf (l.drop k) (ns.drop k)) k best)) ∧ Hid (∀ j y, best = some (j, y) → j < l.length ∧ l[j]? = some y.j) ∧ Hid (Below w.heap.size w wr)) (fun _ i _ => l.length - (nI i).toNat)
  case atStart => exact ⟨0, none, Nat.zero_le _, rfl, rfl, HE, (fun _ _ h => by cases h), Below.refl _ _⟩
  case round =>
    obtain ⟨k, best, hk, rfl, rfl, HQ, HBB, HB⟩ := hrel
    by_cases hlt : k < l.length
    · obtain ⟨x, b, off, hx, hdr, hA, hbw, c0, c1, c2, _⟩ := Sl.jb_at (HS.out.bel HB.out) hlt
      obtain ⟨n, b2, off2, hn, hdr2, rfl, hbw2, d0⟩ := Sl.ic_at (HT.out.bel HB.out) (show k < ns.length by have := HL.out; omega)
      have hq := HQ.out
      rw [hdr, hdr2, tsOf_cons, pickGo] at hq
      have kz : (k : Int) < (l.length : Int) := by omega
      have kz2 : (k : Int) < (ns.length : Int) := by have := HL.out; omega
      have HX := hide hx
      have HBd := hide HB.out.drew
      clear hdr hdr2 hn HQ
      have hav : avail t ⟨x, n⟩ = (decide (x.ready ≤ t) && decide (0 < n)) := rfl
      unfold upd at hq
      rw [hav] at hq
      rcases Bool.eq_false_or_eq_true (decide (x.ready ≤ t)) with g1 | g1
      · rcases Bool.eq_false_or_eq_true (decide (0 < n)) with g2 | g2
        · rw [g1, g2, Bool.true_and, if_pos rfl] at hq
          cases best with
          | none =>
            subst hA
            have H := hide hq
            have HB2 : Hid (∀ j y, some (k, (⟨x, n⟩ : Tk)) = some (j, y) → j < l.length ∧ l[j]? = some y.j) := hide (fun j y h => by cases h; exact ⟨hlt, HX.out⟩)
            simp only [bI]
            clear hq hav hx HBB
            (go_wp2_with fail; refine wp_still_all (by kernel_rfl) (by kernel_rfl) ?_; (repeat (first | ((with_reducible refine wpStill_step (fun K hK => ?_)); go_simp; (try go_bits); (with_reducible refine hK _ ?_); clear hK K) | ((with_reducible refine wpStill_step (fun K hK => ?_)); go_simp; rw [if_neg (by simp [undef])]; (with_reducible refine hK _ ?_); clear hK K))); (with_reducible refine wpStill_nil ?_))
            go_wp2
            go_roundw
            case rel => exact ⟨k + 1, some (k, ⟨x, n⟩), by omega, by go_num, rfl, H, HB2, HBd⟩
            case measure => simp [nI]; omega
          | some p =>
            obtain ⟨j, y⟩ := p
            obtain ⟨hj1, hj2⟩ := HBB.out j y rfl
            obtain ⟨y2, b3, off3, hy, _, hA3, hbw3, e0, e1, e2, _⟩ := Sl.jb_at (HS.out.bel HB.out) hj1
            rw [hA] at hA3
            cases hA3
            subst hA
            obtain rfl : y2 = y.j := by rw [hj2] at hy; exact (Option.some.inj hy).symm
            have jz : (j : Int) < (l.length : Int) := by omega
            simp only at hq
            simp only [bI]
            have HJ2 := hide hj2
            clear hav hx hy hj2 HBB
            rcases Bool.eq_false_or_eq_true (decide (x.due < y.j.due)) with g3 | g3
            · rw [if_pos (of_decide_eq_true g3)] at hq
              have H := hide hq
              have HB2 : Hid (∀ j y, some (k, (⟨x, n⟩ : Tk)) = some (j, y) → j < l.length ∧ l[j]? = some y.j) := hide (fun j y h => by cases h; exact ⟨hlt, HX.out⟩)
              clear hq
              (go_wp2_with fail; refine wp_still_all (by kernel_rfl) (by kernel_rfl) ?_; (repeat (first | ((with_reducible refine wpStill_step (fun K hK => ?_)); go_simp; (try go_bits); (with_reducible refine hK _ ?_); clear hK K) | ((with_reducible refine wpStill_step (fun K hK => ?_)); go_simp; rw [if_neg (by simp [undef])]; (with_reducible refine hK _ ?_); clear hK K))); (with_reducible refine wpStill_nil ?_))
              go_wp2
              go_roundw
              case rel => exact ⟨k + 1, some (k, ⟨x, n⟩), by omega, by go_num, rfl, H, HB2, HBd⟩
              case measure => simp [nI]; omega
            · rw [if_neg (of_decide_eq_false g3)] at hq
              have H := hide hq
              have HB2 : Hid (∀ j' y', some (j, y) = some (j', y') → j' < l.length ∧ l[j']? = some y'.j) := hide (fun j' y' h => by cases h; exact ⟨hj1, HJ2.out⟩)
              clear hq
              (go_wp2_with fail; refine wp_still_all (by kernel_rfl) (by kernel_rfl) ?_; (repeat (first | ((with_reducible refine wpStill_step (fun K hK => ?_)); go_simp; (try go_bits); (with_reducible refine hK _ ?_); clear hK K) | ((with_reducible refine wpStill_step (fun K hK => ?_)); go_simp; rw [if_neg (by simp [undef])]; (with_reducible refine hK _ ?_); clear hK K))); (with_reducible refine wpStill_nil ?_))
              go_wp2
              go_roundw
              case rel => exact ⟨k + 1, some (j, y), by omega, by go_num, rfl, H, HB2, HBd⟩
              case measure => simp [nI]; omega
        · rw [g1, g2, Bool.and_false, if_neg (by simp)] at hq
          subst hA
          have H := hide hq
          clear hq hav hx
          (go_wp2_with fail; refine wp_still_all (by kernel_rfl) (by kernel_rfl) ?_; (repeat (first | ((with_reducible refine wpStill_step (fun K hK => ?_)); go_simp; (try go_bits); (with_reducible refine hK _ ?_); clear hK K) | ((with_reducible refine wpStill_step (fun K hK => ?_)); go_simp; rw [if_neg (by simp [undef])]; (with_reducible refine hK _ ?_); clear hK K))); (with_reducible refine wpStill_nil ?_))
          go_wp2
          go_roundw
          case rel => exact ⟨k + 1, best, by omega, by go_num, rfl, H, HBB, HBd⟩
          case measure => simp [nI]; omega
      · rw [g1, Bool.false_and, if_neg (by simp)] at hq
        subst hA
        have H := hide hq
        clear hq hav hx
        (go_wp2_with fail; refine wp_still_all (by kernel_rfl) (by kernel_rfl) ?_; (repeat (first | ((with_reducible refine wpStill_step (fun K hK => ?_)); go_simp; (try go_bits); (with_reducible refine hK _ ?_); clear hK K) | ((with_reducible refine wpStill_step (fun K hK => ?_)); go_simp; rw [if_neg (by simp [undef])]; (with_reducible refine hK _ ?_); clear hK K))); (with_reducible refine wpStill_nil ?_))
        go_wp2
        go_roundw
        case rel => exact ⟨k + 1, best, by omega, by go_num, rfl, H, HBB, HBd⟩
        case measure => simp [nI]; omega
    · have hq := HQ.out
      rw [List.drop_of_length_le (by omega)] at hq
      have H := hide (hq.trans (show _ = bI best by unfold tsOf; rw [List.zipWith_nil_left]; rfl))
      clear hq
      go_wp2
      go_ret
      exact ⟨ret_int H.out.symm, HB.out⟩
end Go.Proofs.Ytbkokljelopcnaa
namespace Go.Proofs.Ytbkokljelopcnaa
open Go.RowKit Go.Mine Go.Mine.Q
theorem Try_info41 : (Try.prog.info? 41).map (fun i => (i.zero, i.size, i.bytes)) = some (some (.agg #[.int .i64 0, .int .i64 0, .int .i64 0]), 3, 24) := by kernel_rfl
theorem sx_one (x : Sx) : ∀ u ∈ sxC x, u.oneCell' = true := by
  intro u hu; simp [sxC] at hu; rcases hu with rfl | rfl | rfl <;> rfl
theorem _root_.Go.Mine.OwnL.base_le {α : Type} {f : α → List Value} {sz : Nat} {e : TypeId} {w : World} {b b' : Nat} {v : Value} {l : List α} (h : OwnL f sz e w b v l) (hb : b' ≤ b) : OwnL f sz e w b' v l := by
  obtain ⟨⟨h1, h2⟩, h3⟩ := h
  refine ⟨⟨h1, ?_⟩, h3⟩
  rcases h2 with h2 | ⟨g, cap, cur, r1, r2, r3⟩
  · exact .inl h2
  · exact .inr ⟨g, cap, cur, r1, Nat.le_trans hb r2, r3⟩
theorem run_ext_sx {P : Program} {w : World} {t ty e : TypeId} {base : Nat} {i : TypeInfo} {z : Value} {bytes : Nat} (ht : P.underlying t = some (.slice e)) (hi : P.info? e = some i) (hz : i.zero = some z)
    (hsize : i.size = 3) (hby : i.bytes = bytes) (hzs : z.cells.size = 3) {v : Value} {l1 l2 : List Sx} (hown : OwnL sxC 3 e w base v l1) {A : Option Addr} {c n : Nat} (hn : l2.length = n) (h2 : Sl sxC 3 w A c l2)
    (h63 : l1.length + n ≤ maxLen) (hbytes : (l1.length + n) * bytes ≤ 140737488355328) (hbase : base ≤ w.heap.size) :
    ∃ v' w', (Builtin.append_ #[t, t] ty #[v, .slice A n c]).run P w = .ok v' w' ∧ OwnL sxC 3 e w' base v' (l1 ++ l2) ∧ w.grownBy w' v.ownBlock ∧ (∀ g, v'.ownBlock = some g → v.ownBlock = some g ∨ w.heap.size ≤ g) := by
  subst hn
  exact run_extend ht hi hz hsize hby hzs (by decide) hown h2 (fun x _ => sx_one x) h63 hbytes hbase
def AddE (s : List Sx) (x : Sx) (w : World) (e : Ending) (w' : World) : Prop := ∃ v, e = .returned v ∧ OwnL sxC 3 41 w' w.heap.size v (addS s x) ∧ Below w.heap.size w w'
set_option maxRecDepth 100000 in
set_option maxHeartbeats 8000000 in
theorem add45_nil (A : Option Addr) (c n : Nat) (s : List Sx) (x : Sx) (w : World) (hS : Sl sxC 3 w A c s) (hn : s = []) (hsn : s.length = n) : Calls Try.prog 45 #[.slice A n c, sxV x] w (AddE s x w) := by
  have HAD := hide (show addS s x = s ++ [x] by subst hn; rfl)
  have hn0 : n = 0 := by rw [← hsn, hn]; rfl
  have X0 := hide (Blk.new w #[.int .i64 x.no, .int .i64 x.f, .int .i64 x.u] 41)
  have HB0 := hide (kalloc (Below.refl w.heap.size w) (.cells #[.int .i64 x.no, .int .i64 x.f, .int .i64 x.u] 41))
  have HS := hide hS
  have g0 : decide (0 < n) = false := by rw [hn0]; rfl
  have HSL := hide hsn
  have hl : n ≤ 100000 := by omega
  simp only [sxV, sxC]
  clear hS hn hsn hn0
  go_enter Try.func45, Try.ntmps45
  obtain ⟨i0, hi, hz0, hz1, hz2⟩ := info_parts Try_info41
  have HI := hide hi
  have hx1 : [x].length = 1 := rfl
  have hgB : ∀ {W W' : World} {row : Option Nat}, W.grownBy W' row → W.heap.size ≤ W'.heap.size := fun h => h.size
  clear hi hx1
  (go_wp2_with fail; refine wp_still_all (by kernel_rfl) (by kernel_rfl) ?_; (repeat (first | ((with_reducible refine wpStill_step (fun K hK => ?_)); go_simp; (try go_bits); (with_reducible refine hK _ ?_); clear hK K) | ((with_reducible refine wpStill_step (fun K hK => ?_)); go_simp; rw [if_neg (by simp [undef])]; (with_reducible refine hK _ ?_); clear hK K))); (with_reducible refine wpStill_nil ?_))
  go_wp2_with fail
  refine at_world (fun W => Blk W w.heap.size 41 #[.int .i64 x.no, .int .i64 x.f, .int .i64 x.u] ∧ Below w.heap.size w W) ⟨X0.out.drew, HB0.out.drew⟩ ?_
  clear g0 X0 HB0
  rintro w1 ⟨b1, B1⟩
  have y0 := b1.cell (v := .int .i64 x.no) 0 rfl
  have y1 := b1.cell (v := .int .i64 x.f) 1 rfl
  have y2 := b1.cell (v := .int .i64 x.u) 2 rfl
  have hlt1 := b1.lt
  have S4 := hide (HS.out.bel B1)
  refine Go.Mine.wp_cut (fun _ a' w' => a'.defers = [] ∧ ∃ v, a'.tmps.getD 4 undef = v ∧ OwnL sxC 3 41 w' w1.heap.size v (s ++ [x]) ∧ Below w1.heap.size w1 w') ?_ ?_
  · go_region_law (first
        | (refine step_append (v := .slice (some ⟨_, 0, none⟩) 0 0) rfl (.tmp 44) (.tmp 45) 34 rfl rfl rfl (run_ext_sx (base := w1.heap.size) (l1 := []) (l2 := s) Try.underlying34 HI.out hz0 hz1 hz2 rfl (by first | exact (OwnL.fresh' (by simp) (by omega)).drew | exact ((OwnL.fresh' (by simp) (by omega)).alloc _).drew) HSL.out (by first | exact (S4.out.alloc _).drew | exact ((S4.out.alloc _).alloc _).drew) (by simp [maxLen]; omega) (by simp; omega) (by simp <;> omega)) ?_
           rintro v' w' ⟨gO, gG, gB⟩
           have y0' := gcell (b := w.heap.size) (o := 0) (v := .int .i64 x.no) gG (by simp; omega) (by simp [Value.ownBlock]; omega) (by simp [go_sem, y0, hlt1])
           have y1' := gcell (b := w.heap.size) (o := 1) (v := .int .i64 x.f) gG (by simp; omega) (by simp [Value.ownBlock]; omega) (by simp [go_sem, y1, hlt1])
           have y2' := gcell (b := w.heap.size) (o := 2) (v := .int .i64 x.u) gG (by simp; omega) (by simp [Value.ownBlock]; omega) (by simp [go_sem, y2, hlt1])
           have gN : w1.heap.size ≤ w'.heap.size := Nat.le_trans (by simp <;> omega) (hgB gG)
           have gBel : Below w1.heap.size w1 w' := Below.grown (by first | exact ((Below.refl _ _).alloc (Nat.le_refl _) _).drew | exact (((Below.refl _ _).alloc (Nat.le_refl _) _).alloc (by simp) _).drew) gG (by simp <;> omega) (fun k hk => by simp [Value.ownBlock] at hk; omega)
           try (have xB := Blk.grown (b := w1.heap.size + 1) (cs := #[.int .i64 x.no, .int .i64 x.f, .int .i64 x.u]) (ty := 41) (Blk.drew (Blk.new' (by simp))) gG (by simp [Value.ownBlock]))
           try (have xB := Blk.grown (b := w1.heap.size) (cs := #[.int .i64 x.no, .int .i64 x.f, .int .i64 x.u]) (ty := 41) (Blk.drew (Blk.alloc (Blk.new' (by simp)) _)) gG (by simp [Value.ownBlock])))
        | (refine step_append (v := v') (u := .slice (some ⟨_, 0, none⟩) 1 1) rfl (.tmp 46) (.tmp 48) 34 rfl rfl rfl (run_ext_sx (base := w1.heap.size) (l1 := [] ++ s) (l2 := [x]) Try.underlying34 HI.out hz0 hz1 hz2 rfl (by first | exact gO | exact gO.alloc _) rfl (by first | exact Sl.one xB rfl rfl (by decide) (by decide) | exact Sl.one (Blk.new' rfl) rfl rfl (by decide) (by decide)) (by have := HSL.out; simp [maxLen]; omega) (by have := HSL.out; simp; omega) (by first | exact gN | exact Nat.le_trans gN (by simp) | omega)) ?_
           rintro v'' w'' ⟨gO2, gG2, gB2⟩
           have gBel2 : Below w1.heap.size w1 w'' := Below.grown (by first | exact gBel | exact gBel.alloc gN _) gG2 (by first | exact gN | exact Nat.le_trans gN (by simp)) (fun k hk => (gO.blk hk).1)))
    all_goals
      exact ⟨by kernel_rfl, _, by kernel_rfl, gO2, gBel2⟩
  · rintro a' w5 ⟨ha, v, h7, hO, hb⟩
    have HO := hide hO
    have HB5 := hide (kcall B1 hb)
    have hs1 := B1.size
    clear hO hb B1 b1 y0 y1 y2 hlt1 S4 HI hz0 hz1 hz2 hgB
    rename_i K9 h9
    refine h9 _ _ (wp_ret ?_)
    clear h9
    refine bodyPost_ret (results_tmp rfl _ _ _) ha ⟨v, by rw [h7], by rw [HAD.out]; exact HO.out.base_le hs1, HB5.out⟩
set_option maxRecDepth 100000 in
set_option maxHeartbeats 8000000 in
theorem add45_more (A : Option Addr) (c n : Nat) (s r : List Sx) (y x : Sx) (w : World) (hS : Sl sxC 3 w A c s) (hsn : s.length = n) (hl : n ≤ 100000) (hr : s = r ++ [y]) (hne : ¬ (y.no = x.no ∧ y.u = x.f)) : Calls Try.prog 45 #[.slice A n c, sxV x] w (AddE s x w) := by
  have HAD := hide (show addS s x = s ++ [x] by subst hr; exact addS_more r y x hne)
  have hsl : n = r.length + 1 := by rw [← hsn, hr]; simp
  have X0 := hide (Blk.new w #[.int .i64 x.no, .int .i64 x.f, .int .i64 x.u] 41)
  have HB0 := hide (kalloc (Below.refl w.heap.size w) (.cells #[.int .i64 x.no, .int .i64 x.f, .int .i64 x.u] 41))
  have HS := hide hS
  have g0 : decide (0 < n) = true := decide_eq_true (by omega)
  have HSL := hide hsn
  have hc := hS.max
  have hcl := hS.le
  rw [hsn] at hcl
  obtain ⟨y2, b, off, hy, _, rfl, hbw, p0, p1, p2⟩ := Sl.sx_at hS (k := r.length) (by omega)
  obtain rfl : y2 = y := by
    rw [hr] at hy; simp at hy; exact hy.symm
  have hw : IntKind.i64.wrap ((n : Int) - 1) = (r.length : Int) := by rw [IntKind.wrap_i64]; omega
  have hrs : (r.length : Int) < (n : Int) := by omega
  generalize r.length = m at *
  have HC : (y2.no == x.no) = false ∨ ((y2.no == x.no) = true ∧ (y2.u == x.f) = false) := by
    by_cases h : y2.no = x.no
    · exact .inr ⟨by simpa using h, by simpa using fun e => hne ⟨h, e⟩⟩
    · exact .inl (by simpa using h)
  simp only [sxV, sxC]
  clear hS hy hr hne hsl hsn
  rcases HC with e1 | ⟨e1, e2⟩
  all_goals
    go_enter Try.func45, Try.ntmps45
    obtain ⟨i0, hi, hz0, hz1, hz2⟩ := info_parts Try_info41
    have HI := hide hi
    have hx1 : [x].length = 1 := rfl
    have hgB : ∀ {W W' : World} {row : Option Nat}, W.grownBy W' row → W.heap.size ≤ W'.heap.size := fun h => h.size
    clear hi hx1
    (go_wp2_with fail; refine wp_still_all (by kernel_rfl) (by kernel_rfl) ?_; (repeat (first | ((with_reducible refine wpStill_step (fun K hK => ?_)); go_simp; (try go_bits); (with_reducible refine hK _ ?_); clear hK K) | ((with_reducible refine wpStill_step (fun K hK => ?_)); go_simp; rw [if_neg (by simp [undef])]; (with_reducible refine hK _ ?_); clear hK K))); (with_reducible refine wpStill_nil ?_))
    go_wp2_with fail
    refine at_world (fun W => Blk W w.heap.size 41 #[.int .i64 x.no, .int .i64 x.f, .int .i64 x.u] ∧ Below w.heap.size w W) ⟨X0.out.drew, HB0.out.drew⟩ ?_
    clear g0 p0 p1 p2 hw hrs e1 X0 HB0
    rintro w1 ⟨b1, B1⟩
    have y0 := b1.cell (v := .int .i64 x.no) 0 rfl
    have y1 := b1.cell (v := .int .i64 x.f) 1 rfl
    have y2 := b1.cell (v := .int .i64 x.u) 2 rfl
    have hlt1 := b1.lt
    have S4 := hide (HS.out.bel B1)
    refine Go.Mine.wp_cut (fun _ a' w' => a'.defers = [] ∧ ∃ v, a'.tmps.getD 4 undef = v ∧ OwnL sxC 3 41 w' w1.heap.size v (s ++ [x]) ∧ Below w1.heap.size w1 w') ?_ ?_
    · go_region_law (first
          | (refine step_append (v := .slice (some ⟨_, 0, none⟩) 0 0) rfl (.tmp 44) (.tmp 45) 34 rfl rfl rfl (run_ext_sx (base := w1.heap.size) (l1 := []) (l2 := s) Try.underlying34 HI.out hz0 hz1 hz2 rfl (by first | exact (OwnL.fresh' (by simp) (by omega)).drew | exact ((OwnL.fresh' (by simp) (by omega)).alloc _).drew) HSL.out (by first | exact (S4.out.alloc _).drew | exact ((S4.out.alloc _).alloc _).drew) (by simp [maxLen]; omega) (by simp; omega) (by simp <;> omega)) ?_
             rintro v' w' ⟨gO, gG, gB⟩
             have y0' := gcell (b := w.heap.size) (o := 0) (v := .int .i64 x.no) gG (by simp; omega) (by simp [Value.ownBlock]; omega) (by simp [go_sem, y0, hlt1])
             have y1' := gcell (b := w.heap.size) (o := 1) (v := .int .i64 x.f) gG (by simp; omega) (by simp [Value.ownBlock]; omega) (by simp [go_sem, y1, hlt1])
             have y2' := gcell (b := w.heap.size) (o := 2) (v := .int .i64 x.u) gG (by simp; omega) (by simp [Value.ownBlock]; omega) (by simp [go_sem, y2, hlt1])
             have gN : w1.heap.size ≤ w'.heap.size := Nat.le_trans (by simp <;> omega) (hgB gG)
             have gBel : Below w1.heap.size w1 w' := Below.grown (by first | exact ((Below.refl _ _).alloc (Nat.le_refl _) _).drew | exact (((Below.refl _ _).alloc (Nat.le_refl _) _).alloc (by simp) _).drew) gG (by simp <;> omega) (fun k hk => by simp [Value.ownBlock] at hk; omega)
             try (have xB := Blk.grown (b := w1.heap.size + 1) (cs := #[.int .i64 x.no, .int .i64 x.f, .int .i64 x.u]) (ty := 41) (Blk.drew (Blk.new' (by simp))) gG (by simp [Value.ownBlock]))
             try (have xB := Blk.grown (b := w1.heap.size) (cs := #[.int .i64 x.no, .int .i64 x.f, .int .i64 x.u]) (ty := 41) (Blk.drew (Blk.alloc (Blk.new' (by simp)) _)) gG (by simp [Value.ownBlock])))
          | (refine step_append (v := v') (u := .slice (some ⟨_, 0, none⟩) 1 1) rfl (.tmp 46) (.tmp 48) 34 rfl rfl rfl (run_ext_sx (base := w1.heap.size) (l1 := [] ++ s) (l2 := [x]) Try.underlying34 HI.out hz0 hz1 hz2 rfl (by first | exact gO | exact gO.alloc _) rfl (by first | exact Sl.one xB rfl rfl (by decide) (by decide) | exact Sl.one (Blk.new' rfl) rfl rfl (by decide) (by decide)) (by have := HSL.out; simp [maxLen]; omega) (by have := HSL.out; simp; omega) (by first | exact gN | exact Nat.le_trans gN (by simp) | omega)) ?_
             rintro v'' w'' ⟨gO2, gG2, gB2⟩
             have gBel2 : Below w1.heap.size w1 w'' := Below.grown (by first | exact gBel | exact gBel.alloc gN _) gG2 (by first | exact gN | exact Nat.le_trans gN (by simp)) (fun k hk => (gO.blk hk).1)))
      all_goals
        exact ⟨by kernel_rfl, _, by kernel_rfl, gO2, gBel2⟩
    · rintro a' w5 ⟨ha, v, h7, hO, hb⟩
      have HO := hide hO
      have HB5 := hide (kcall B1 hb)
      have hs1 := B1.size
      clear hO hb B1 b1 y0 y1 y2 hlt1 S4 HI hz0 hz1 hz2 hgB
      rename_i K9 h9
      refine h9 _ _ (wp_ret ?_)
      clear h9
      refine bodyPost_ret (results_tmp rfl _ _ _) ha ⟨v, by rw [h7], by rw [HAD.out]; exact HO.out.base_le hs1, HB5.out⟩
end Go.Proofs.Ytbkokljelopcnaa
namespace Go.Proofs.Ytbkokljelopcnaa
open Go.RowKit Go.Mine Go.Mine.Q
set_option maxRecDepth 100000 in
set_option maxHeartbeats 8000000 in
theorem add45_join (A : Option Addr) (c n : Nat) (s r : List Sx) (y x : Sx) (w : World) (hS : Sl sxC 3 w A c s) (hsn : s.length = n) (hl : n ≤ 100000) (hr : s = r ++ [y]) (hj : y.no = x.no ∧ y.u = x.f) : Calls Try.prog 45 #[.slice A n c, sxV x] w (AddE s x w) := by
  have HAD := hide (show addS s x = r ++ [⟨y.no, y.f, x.u⟩] by subst hr; exact addS_join r y x hj)
  have hsl : n = r.length + 1 := by rw [← hsn, hr]; simp
  have X0 := hide (Blk.new w #[.int .i64 x.no, .int .i64 x.f, .int .i64 x.u] 41)
  have HB0 := hide (kalloc (Below.refl w.heap.size w) (.cells #[.int .i64 x.no, .int .i64 x.f, .int .i64 x.u] 41))
  have HS := hide hS
  have HR := hide hr
  have g0 : decide (0 < n) = true := decide_eq_true (by omega)
  have HSL := hide hsn
  have hc := hS.max
  have hcl := hS.le
  rw [hsn] at hcl
  obtain ⟨y2, b, off, hy, _, rfl, hbw, p0, p1, p2⟩ := Sl.sx_at hS (k := r.length) (by omega)
  obtain rfl : y2 = y := by
    rw [hr] at hy; simp at hy; exact hy.symm
  have hw : IntKind.i64.wrap ((n : Int) - 1) = (r.length : Int) := by rw [IntKind.wrap_i64]; omega
  have hrs : (r.length : Int) < (n : Int) := by omega
  have HM : ∃ m, r.length = m := ⟨_, rfl⟩
  obtain ⟨m, hm⟩ := HM
  rw [hm] at p0 p1 p2 hw hrs hsl
  have HRL := hide hm
  have HN := hide hsl
  have e1 : (y2.no == x.no) = true := by simpa using hj.1
  have e2 : (y2.u == x.f) = true := by simpa using hj.2
  obtain ⟨i0, hi, hz0, hz1, hz2⟩ := info_parts Try_info41
  have HI := hide hi
  simp only [sxV, sxC]
  clear hS hy hr hsl hsn hm hj hi
  go_enter Try.func45, Try.ntmps45
  (go_wp2_with fail; refine wp_still_all (by kernel_rfl) (by kernel_rfl) ?_; (repeat (first | ((with_reducible refine wpStill_step (fun K hK => ?_)); go_simp; (try go_bits); (with_reducible refine hK _ ?_); clear hK K) | ((with_reducible refine wpStill_step (fun K hK => ?_)); go_simp; rw [if_neg (by simp [undef])]; (with_reducible refine hK _ ?_); clear hK K))); (with_reducible refine wpStill_nil ?_))
  go_wp2_with (at_builtin; refine wpList_append rfl (.tmp 33) (.tmp 34) 34 rfl rfl rfl (run_ext_sx (base := w.heap.size) (l1 := []) (l2 := s) Try.underlying34 HI.out hz0 hz1 hz2 rfl (OwnL.fresh' (g := w.heap.size + 1) (by simp) (by omega)).drew HSL.out (((HS.out.bel HB0.out).alloc _).drew) ?_ ?_ ?_) ?_)
  · simp [maxLen]; omega
  · simp; omega
  · simp <;> omega
  · intro v' w' hO hg hat
    have hb3 : Below w.heap.size w w' := Below.grown (kalloc HB0.out (.cells #[] 41)).drew hg (by simp; omega) (fun k hk => by simp [Value.ownBlock] at hk; omega)
    have X3 := Blk.grown (X0.out.alloc (.cells #[] 41)).drew hg (by simp [Value.ownBlock])
    have hO2 : OwnL sxC 3 41 w' w.heap.size v' (r ++ [y2]) := by rw [HR.out] at hO; exact hO
    obtain ⟨g, cap, rfl, hg1, hg2, hcap, hf0, hfz, hcc, hput⟩ := OwnL.last hO2
    rw [HRL.out] at hcc hput ⊢
    have q2 := hcc 2 _ (show (sxC y2)[2]? = some (.int .i64 y2.u) from rfl)
    have z2 := hfz (m * 3 + 2)
    have HP := hide (hput 2 (.int .i64 x.u) ⟨y2.no, y2.f, x.u⟩ (w'.setCell ⟨g, m * 3 + 2, none⟩ (.int .i64 x.u)) rfl (by omega) rfl)
    have HB3 := hide (hb3.setCell (p := ⟨g, m * 3 + 2, none⟩) (by show w.heap.size ≤ g; exact hg1) (.int .i64 x.u))
    have x2 := X3.cell (v := .int .i64 x.u) 2 rfl
    have xl := X3.lt
    have hgx : w.heap.size < g := by
      rcases hat g (by simp [Value.ownBlock]) with h | h
      · simp [Value.ownBlock] at h; omega
      · omega
    clear hO hO2 hg hat hb3 X3 hcc hput hfz hf0 p0 p1 p2 HB0 X0 HS HI hz0 hz1 hz2
    go_wp2
    go_ret
    exact ⟨_, rfl, by rw [HAD.out]; exact HP.out, HB3.out⟩
theorem add45 (A : Option Addr) (c : Nat) (s : List Sx) (x : Sx) (w : World) (hS : Sl sxC 3 w A c s) (hl : s.length ≤ 100000) : Calls Try.prog 45 #[.slice A s.length c, sxV x] w (AddE s x w) := by
  rcases list_cases s with hs | ⟨r, y, hs⟩
  · exact add45_nil A c _ s x w hS hs rfl
  · by_cases hj : y.no = x.no ∧ y.u = x.f
    · exact add45_join A c _ s r y x w hS rfl hl hs hj
    · exact add45_more A c _ s r y x w hS rfl hl hs hj
end Go.Proofs.Ytbkokljelopcnaa
namespace Go.Proofs.Ytbkokljelopcnaa
open Go.RowKit Go.Mine Go.Mine.Q
def RunE (l : List Jb) (w : World) (e : Ending) (w' : World) : Prop := ∃ A c, e = .returned (.tuple #[.slice A (runS l).length c, .bool (runB l), .int .i64 (chk l)]) ∧ Sl sxC 3 w' A c (runS l) ∧ Below w.heap.size w w'
theorem runS_no {l : List Jb} (h : runB l = false) : runS l = [] := by unfold runS; rw [h]; rfl
theorem runS_yes {l : List Jb} (h : runB l = true) : runS l = plan l := by unfold runS; rw [h]; rfl
theorem span_min {l : List Jb} {ts : List Tk} (h : js ts = l) {t : Int} (x : Tk) (hc : t + x.left < 2199023255552) : (if nxI t l < t + x.left then nxI t l else t + x.left) = t + span1 t ts x := by
  have hn : next t ts = nextJ t l := by rw [next_js, h]
  unfold nxI span1
  rw [hn]
  cases nextJ t l with
  | none => simp only [Option.getD_none]; rw [if_neg (by omega)]
  | some u => simp only [Option.getD_some]; split <;> split <;> omega
theorem start_tsOf (l : List Jb) : Go.Mine.Q.start l = tsOf l (l.map (·.need)) := by
  unfold Go.Mine.Q.start tsOf
  refine List.ext_getElem? fun k => ?_
  rw [List.getElem?_map, List.getElem?_zipWith, List.getElem?_map]
  cases l[k]? <;> rfl
theorem tsOf_set {l : List Jb} {ns : List Int} {k : Nat} {x : Jb} (h1 : l[k]? = some x) (m : Int) : (tsOf l ns).set k ⟨x, m⟩ = tsOf l (ns.set k m) := by
  unfold tsOf
  refine List.ext_getElem? fun i => ?_
  rw [List.getElem?_set, List.getElem?_zipWith, List.getElem?_zipWith, List.getElem?_set]
  by_cases h : k = i
  · subst h
    simp only [h1, if_true, List.length_zipWith]
    have := (List.getElem?_eq_some_iff.1 h1).1
    by_cases h2 : k < ns.length
    · simp [h2, this, Nat.lt_min]
    · simp [h2]; omega
  · simp only [h, if_false]
theorem tsOf_at {l : List Jb} {ns : List Int} {k : Nat} {y : Tk} (h : (tsOf l ns)[k]? = some y) : l[k]? = some y.j ∧ ns[k]? = some y.left := by
  unfold tsOf at h
  rw [List.getElem?_zipWith] at h
  cases h1 : l[k]? with
  | none => rw [h1] at h; cases h
  | some x =>
    cases h2 : ns[k]? with
    | none => rw [h1, h2] at h; cases h
    | some n => rw [h1, h2] at h; cases h; exact ⟨rfl, rfl⟩
theorem Try_info3 : (Try.prog.info? 3).map (fun i => (i.zero, i.size, i.bytes)) = some (some (.int .i64 0), 1, 8) := by kernel_rfl
theorem ic_one (n : Int) : ∀ u ∈ ic n, u.oneCell' = true := by intro u hu; simp [ic] at hu; subst hu; rfl
theorem need_take {l : List Jb} {k : Nat} {x : Jb} (h : l[k]? = some x) : sumF (·.need) (l.take (k + 1)) = sumF (·.need) (l.take k) + x.need := by
  rw [take_of_get h, sumF_append]; simp [sumF]
theorem need_sum (l : List Jb) : sumL (Go.Mine.Q.start l) = sumF (·.need) l := by
  unfold sumL Go.Mine.Q.start; rw [sumF_map]
theorem need_bound {l : List Jb} (h : ∀ x ∈ l, rightJ x = true) (k : Nat) : 0 ≤ sumF (·.need) (l.take k) ∧ sumF (·.need) (l.take k) ≤ k * 1048576 := by
  have hr : ∀ y ∈ l.take k, 0 ≤ y.need ∧ y.need ≤ 1048576 := fun y hy => by
    have := rightJ_iff.1 (h y (List.mem_of_mem_take hy)); omega
  refine ⟨sumF_nonneg fun y hy => (hr y hy).1, ?_⟩
  have h1 : sumF (fun x : Jb => x.need) (l.take k) ≤ _ := sumF_bound (l := l.take k) fun y hy => (hr y hy).2
  have h2 : (l.take k).length ≤ k := by simp; omega
  omega
set_option maxRecDepth 100000 in
set_option maxHeartbeats 8000000 in
theorem run24_good (A : Option Addr) (c : Nat) (l : List Jb) (w : World) (hS : Sl jbC 5 w A c l) (hz : chk l = 0) : Calls Try.prog 24 #[.slice A l.length c] w (RunE l w) := by
  obtain ⟨hr, h64, _⟩ := right_of hz
  have hlc := hS.le
  have hc := hS.max
  have K28 := hide (check28 A c l w hS)
  rw [hz] at K28
  have KP := hide (fun B d ns t W (h : Below w.heap.size w W) (hT : Sl ic 1 W B d ns) (hl : ns.length = l.length) => first43 A B c d l ns t W (hS.bel h) hT hl)
  have KX := hide (fun t W (h : Below w.heap.size w W) => next44 A c l t W (hS.bel h) hr)
  have KA := hide (fun A c s x w hS hl => add45 A c s x w hS hl)
  have HB := hide (show runB l = runOk l by unfold runB; rw [hz]; simp)
  have HST := hide (Run.start hr h64)
  have HNB := hide (fun k => need_bound hr k)
  have HSS := hide (show sumL (Go.Mine.Q.start l) = sumF (·.need) l from need_sum l)
  have HR := hide hr
  have HS := hide hS
  obtain ⟨i0, hi, hz0, hz1, hz2⟩ := info_parts Try_info3
  have HI := hide hi
  clear hS hr hi
  go_enter Try.func24, Try.ntmps24
  go_wp2_with fail
  refine K28.out.mono ?_
  rintro e w1 ⟨rfl, hb⟩
  have HB1 := hide hb
  have hw1 := hb.size
  clear hb K28
  have HO0 := hide (OwnL.fresh (f := ic) (sz := 1) (e := 3) w1 (Nat.le_refl _))
  have HBa := hide (kalloc (Below.refl w1.heap.size w1) (.cells #[] 3))
  go_wp2
  go_loopw [6, 7, 8] (fun v6 v7 i wr => ∃ k : Nat, k ≤ l.length ∧ i = .int .i64 k ∧ v7 = .int .i64 (sumF (·.need) (l.take k)) ∧ Hid (OwnL ic 1 3 wr w1.heap.size v6 ((l.take k).map (·.need))) ∧ Hid (Below w1.heap.size w1 wr)) (fun _ _ i _ => l.length - (nI i).toNat)
  case atStart => exact ⟨0, Nat.zero_le _, rfl, rfl, HO0, HBa⟩
  case round =>
    clear HO0 HBa
    obtain ⟨k, hk, rfl, rfl, HO, HBw⟩ := hrel
    by_cases hlt : k < l.length
    · obtain ⟨x, b, off, hx, _, rfl, hbw, c0, c1, c2, c3, c4⟩ := Sl.jb_at (HS.out.bel (kcall HB1.out HBw.out)) hlt
      have HN := hide (need_take hx)
      have hb1 := HNB.out k
      have hxr := rightJ_iff.1 (HR.out x (List.mem_of_getElem? hx))
      have kz : (k : Int) < (l.length : Int) := by omega
      have hw : IntKind.i64.wrap (sumF (·.need) (l.take k) + x.need) = sumF (·.need) (l.take k) + x.need := by rw [IntKind.wrap_i64]; omega
      have HL := hide (show (l.take (k + 1)).map (·.need) = (l.take k).map (·.need) ++ [x.need] by rw [take_of_get hx, List.map_append]; rfl)
      have hml : ((l.take k).map (·.need)).length = k := by simp; omega
      have HO3 := hide (HO.out.alloc (.cells #[.int .i64 x.need] 3))
      have HB3 := hide (kalloc HBw.out (.cells #[.int .i64 x.need] 3))
      have hwz := HBw.out.size
      have HX := hide hx
      generalize sumF (·.need) (l.take k) = s0 at *
      generalize (l.take k).map (·.need) = ms at *
      clear hx hb1 hxr HO HBw
      go_wp2_with (at_builtin; refine wpList_push (f := ic) (y := x.need) (l := ms) rfl (.tmp 25) (.tmp 31) 49 rfl Try.underlying49 HI.out hz0 hz1 hz2 rfl (by decide) rfl HO3.out rfl (heap_new _ _) rfl rfl ?_ ?_ ?_ ?_ ?_)
      · exact ic_one _
      · simp only [maxLen]; omega
      · omega
      · first | omega | (simp; omega)
      · intro v6 w6 hO6 hgr hat
        have HB6 := hide (Below.grown HB3.out hgr HB3.out.size (fun g hg => (HO3.out.blk hg).1))
        rw [← HL.out] at hO6
        have HO6 := hide hO6
        obtain ⟨x', b', off', hx', _, hA', hbw', d0, d1, d2, d3, d4⟩ := Sl.jb_at (HS.out.bel (kcall HB1.out HB6.out)) hlt
        cases hA'
        obtain rfl : x' = x := by rw [HX.out] at hx'; exact (Option.some.inj hx').symm
        clear hO6 hgr hat HO3 HB3 hx' HX c0 c1 c2 c3 c4
        go_wp2
        go_roundw
        case rel => exact ⟨k + 1, by omega, by go_num, by rw [HN.out], HO6, HB6⟩
        case measure => simp [nI]; omega
    · obtain rfl : k = l.length := by omega
      have hO := HO.out
      rw [List.take_length] at hO ⊢
      rw [← HSS.out]
      have HW := hide (kcall HB1.out HBw.out)
      have hst := HST.out
      rw [start_tsOf] at hst HSS ⊢
      have hO1 := hO.base_le hw1
      have HR0 := hide hst
      have hln : (l.map (·.need)).length = l.length := by simp
      have HLN := hide hln
      obtain ⟨C, cc, rfl, hC⟩ := hO1.sl
      have hcc := hC.le
      have hcm := hC.max
      generalize l.map (·.need) = ms at *
      rw [hln] at hcc
      have HO1 := hide hO1
      obtain ⟨w2, hw2e⟩ : ∃ x, x = wr := ⟨_, rfl⟩
      subst hw2e
      have HO2 := hide (HO1.out.alloc (.cells #[] 41))
      have HB2 := hide (kalloc HW.out (.cells #[] 41))
      rw [hln] at HO2 ⊢
      clear hO hst hln HO HBw hk HST HSS HI hz0 hz1 hz2 HO1 hC hO1
      have hw2 := HW.out.size
      go_wp2
      go_loopw [7, 9, 10, 11, 12] (fun v7 v9 v10 _ _ wr => ∃ (t : Int) (ns : List Int) (s : List Sx) (A9 : Option Addr) (c9 : Nat), v10 = .int .i64 t ∧ v7 = .int .i64 (sumL (tsOf l ns)) ∧ v9 = .slice A9 s.length c9 ∧ Hid (ns.length = l.length) ∧ Hid (Go.Mine.Q.Run l t (tsOf l ns) s) ∧ Hid (OwnL ic 1 3 wr w.heap.size (.slice C l.length cc) ns) ∧ Hid (Sl sxC 3 wr A9 c9 s) ∧ Hid (Below w.heap.size w wr)) (fun _ _ v10 _ _ _ => (1099578736640 - nI v10).toNat)
      case atStart => exact ⟨0, ms, [], _, 0, rfl, rfl, rfl, HLN, HR0, HO2, Sl.nil (by decide), HB2⟩
      case round =>
        clear HO2 HB2 HR0 HLN
        obtain ⟨t, ns, s, A9, c9, rfl, rfl, rfl, HLN, HRN, HO, HS9, HBw⟩ := hrel
        have hrn := HRN.out
        have h9l := HS9.out.le
        have h9m := HS9.out.max
        have hsl := hrn.len
        by_cases hpos : 0 < sumL (tsOf l ns)
        · have gp : decide (0 < sumL (tsOf l ns)) = true := decide_eq_true hpos
          obtain ⟨C2, cc2, hCe, hC2⟩ := HO.out.sl
          have hC3 : Sl ic 1 wr C cc ns := by
            rw [HLN.out] at hCe
            cases hCe
            exact hC2
          have KP1 := hide (KP.out C cc ns t wr HBw.out hC3 HLN.out)
          rw [HLN.out] at KP1
          cases hp : pick t (tsOf l ns) with
          | none =>
            rw [hp] at KP1
            have hn := pick_none hp
            obtain ⟨u, hu⟩ := sumL_next hpos hn
            have hrn2 := hrn.idle HR.out hn hu
            have hnx : nxI t l = u := by unfold nxI; rw [← hrn.js_, ← next_js, hu]; rfl
            have KX1 := hide (fun W h => KX.out t W h)
            rw [hnx] at KX1
            have HRN2 := hide hrn2
            have hlt := (next_some hu).1
            have hcap := hrn2.cap
            have HPOS := hide hpos
            generalize hsm : sumL (tsOf l ns) = sm at *
            have HSM := hide hsm
            clear hrn hrn2 hn hu hnx hp hC2 hC3 hpos hCe KX KP HRN hsm
            simp only [bI] at KP1
            go_wp2_with fail
            refine KP1.out.mono ?_
            rintro e w4 ⟨rfl, hb⟩
            have HB4 := hide (kcall HBw.out hb)
            have HO4 := hide (HO.out.bel hb)
            have HS4 := hide (HS9.out.bel hb)
            clear hb KP1 HO HS9 HBw
            go_wp2_with (go_at_call 44; with_reducible refine (KX1.out _ HB4.out).mono ?_; rintro e w' ⟨rfl, rfl⟩)
            go_roundw
            case rel => exact ⟨u, ns, s, A9, c9, rfl, by rw [HSM.out], rfl, HLN, HRN2, HO4, HS4, HB4⟩
            case measure => have := HPOS.out; simp [nI]; omega
          | some p =>
            obtain ⟨i, x⟩ := p
            rw [hp] at KP1
            have hb := pick_some hp
            obtain ⟨hli, hni⟩ := tsOf_at hb.1
            obtain ⟨hsp1, hsp2⟩ := span1_pos hb
            have hxl := (avail_iff.1 hb.2.1).2
            have hwork := hrn.work hb
            have hxr := rightJ_iff.1 (HR.out x.j (List.mem_of_getElem? hli))
            have hwf := hrn.wf x (List.mem_of_getElem? hb.1)
            have hsum := sumF_mem (f := fun y : Tk => y.left) hb.1 (fun z hz => (hrn.wf z hz).1)
            have hcap := hrn.cap
            have ht0 := hrn.t0
            have hsm0 := hrn.sum
            have hmin := span_min hrn.js_ x (t := t) (by unfold sumL at hcap; omega)
            have hset : (tsOf l ns).set i (setLeft x (span1 t (tsOf l ns) x)) = tsOf l (ns.set i (x.left - span1 t (tsOf l ns) x)) := tsOf_set hli _
            have hsw := sumL_work hb.1 (span1 t (tsOf l ns) x)
            rw [hset] at hwork hsw
            have hle : x.left ≤ sumL (tsOf l ns) := hsum
            have iz : (i : Int) < (l.length : Int) := by have := (List.getElem?_eq_some_iff.1 hli).1; omega
            obtain ⟨un, hun⟩ : ∃ un, t + span1 t (tsOf l ns) x = un := ⟨_, rfl⟩
            obtain ⟨sp, hsp⟩ : ∃ sp, span1 t (tsOf l ns) x = sp := ⟨_, rfl⟩
            rw [hsp] at hun hwork hsw hmin hsp1 hsp2
            obtain rfl : sp = un - t := by omega
            rw [show t + (un - t) = un by omega] at hwork hmin
            have hwa : IntKind.i64.wrap (t + x.left) = t + x.left := by rw [IntKind.wrap_i64]; omega
            have hwb : IntKind.i64.wrap (un - t) = un - t := by rw [IntKind.wrap_i64]; omega
            have hwc : IntKind.i64.wrap (x.left - (un - t)) = x.left - (un - t) := by rw [IntKind.wrap_i64]; omega
            have hwd : IntKind.i64.wrap (sumL (tsOf l ns) - (un - t)) = sumL (tsOf l ns) - (un - t) := by rw [IntKind.wrap_i64]; omega
            have hil : i < l.length := by omega
            obtain ⟨_, b, off, _, _, rfl, _⟩ := Sl.jb_at (HS.out.bel HBw.out) hil
            obtain ⟨g, cap, hCe2, _⟩ := own_at HO.out hni
            rw [HLN.out] at hCe2
            cases hCe2
            have HNI := hide hni
            have HLI := hide hli
            have HW1 := hide hwork
            have HSW := hide hsw
            have HUN := hide (show t < un ∧ un ≤ 1099578736640 by omega)
            have HPS := hide (And.intro hwb (And.intro hwc hwd))
            have hsl2 : s.length ≤ 100000 := by omega
            generalize hsm : sumL (tsOf l ns) = sm at *
            have HSM := hide hsm
            simp only [bI] at KP1
            clear hrn hb hli hni hwork hxr hwf hsum hcap ht0 hsm0 hset hsw hle hsp1 hsp2 hun hsp hsm hp hpos hCe hC2 hC3 hxl KP HRN hwb hwc hwd
            go_wp2_with fail
            refine KP1.out.mono ?_
            rintro e w4 ⟨rfl, hb⟩
            have HB4 := hide (kcall HBw.out hb)
            have HO4 := hide (HO.out.bel hb)
            have HS4 := hide (HS9.out.bel hb)
            clear hb KP1 HO HS9 HBw
            obtain ⟨x2, b2, off2, hx2, _, hA2, hbw2, p0, p1, p2, p3, p4⟩ := Sl.jb_at (HS.out.bel HB4.out) hil
            cases hA2
            obtain rfl : x2 = x.j := by rw [HLI.out] at hx2; exact (Option.some.inj hx2).symm
            obtain ⟨g2, cap2, hCe3, hg1, hg2, _, _, hfz, hcell, _⟩ := own_at HO4.out HNI.out
            rw [HLN.out] at hCe3
            cases hCe3
            have q0 : w4.cell? ⟨g, i, none⟩ = some (.int .i64 x.left) := by have := hcell 0 _ (show (ic x.left)[0]? = some (.int .i64 x.left) from rfl); simpa using this
            have KN := hide ((KX.out t w4.drew HB4.out.drew).mono fun e w' (h : e = .returned (.int .i64 (nxI t l)) ∧ w4.drew = w') => And.intro h.1 h.2.symm)
            clear hx2 hfz hcell
            go_wp2_with fail
            refine wp_still_all (by kernel_rfl) (by kernel_rfl) ?_
            repeat (first | ((with_reducible refine wpStill_step (fun K hK => ?_)); go_simp; (try go_bits); (with_reducible refine hK _ ?_); clear hK K) | ((with_reducible refine wpStill_step (fun K hK => ?_)); go_simp; refine ⟨_, KN.out, ?_⟩; (with_reducible refine hK _ ?_); clear hK K))
            (with_reducible refine wpStill_nil ?_)
            clear KN q0 KX
            have HBd := hide HB4.out.drew
            have HOd := hide (HO4.out.bel (Below.refl _ _).drew)
            have HSd := hide HS4.out.drew
            clear HB4 HO4 HS4
            rcases Bool.eq_false_or_eq_true (decide (x.j.due < un)) with g1 | g1
            · have hno := HW1.out.2 (of_decide_eq_true g1)
              have hrb : runB l = false := by rw [HB.out]; exact hno
              have HRS := hide (runS_no hrb)
              have HRB := hide hrb
              have HZ := hide hz
              clear hno hrb hz HW1
              go_wp2
              exact bodyPost_ret (v := .tuple #[.slice none 0 0, .bool false, .int .i64 0]) (by simp [results, Try.results24, go_sem]) rfl ⟨none, 0, by rw [HRS.out, HRB.out, HZ.out]; rfl, by rw [HRS.out]; exact Sl.nil (by decide), HBd.out⟩
            · have HRN2 := hide (HW1.out.1 (Int.not_lt.1 (of_decide_eq_false g1)))
              have KA1 := hide (KA.out A9 c9 s ⟨x.j.no, t, un⟩ w4.drew HSd.out hsl2)
              simp only [sxV, sxC] at KA1
              clear HW1 KA
              go_wp2_with fail
              refine KA1.out.mono ?_
              rintro e w6 ⟨v9, rfl, hO9, hb⟩
              obtain ⟨A6, c6, rfl, hS6⟩ := hO9.sl
              have HO9 := hide hO9
              have HB6 := hide (kcall HBd.out hb)
              have HO6 := hide (HOd.out.bel hb)
              clear hb hO9 hS6 KA1 HBd HOd HSd p0 p1 p2 p3 p4
              obtain ⟨g3, cap3, hCe4, hg3, hg4, _, _, hfz3, hcell3, hput3⟩ := own_at HO6.out HNI.out
              rw [HLN.out] at hCe4
              cases hCe4
              have q0 : w6.cell? ⟨g, i, none⟩ = some (.int .i64 x.left) := by have := hcell3 0 _ (show (ic x.left)[0]? = some (.int .i64 x.left) from rfl); simpa using this
              have z0 := hfz3 i
              have HP := hide (hput3 0 (.int .i64 (x.left - (un - t))) (x.left - (un - t)) (w6.setCell ⟨g, i, none⟩ (.int .i64 (x.left - (un - t)))) (by simp) (by decide) rfl)
              have HS7 : Hid (Sl sxC 3 (w6.setCell ⟨g, i, none⟩ (.int .i64 (x.left - (un - t)))) A6 c6 (addS s ⟨x.j.no, t, un⟩)) := hide (by
                have h7 := (HO9.out.grown (gb_set (World.grownBy.refl w6 (some g)) (p := ⟨g, i, none⟩) (.inl rfl) (.int .i64 (x.left - (un - t)))) (fun g' hg' e => by
                  have h8 := (HO9.out.blk hg').1
                  have h9 : w4.drew.heap.size = w4.heap.size := rfl
                  cases e; omega)).sl
                obtain ⟨A7, c7, e7, hS7⟩ := h7
                cases e7
                exact hS7)
              have HB7 := hide (HB6.out.setCell (p := ⟨g, i, none⟩) (by show w.heap.size ≤ g; exact hg3) (.int .i64 (x.left - (un - t))))
              have hwb := HPS.out.1
              have hwc := HPS.out.2.1
              have hwd := HPS.out.2.2
              have HLN2 : Hid ((ns.set i (x.left - (un - t))).length = l.length) := hide (by rw [List.length_set]; exact HLN.out)
              clear hfz3 hcell3 hput3 HO6 HO9 HB6
              go_wp2
              go_roundw
              case rel => exact ⟨un, ns.set i (x.left - (un - t)), _, A6, c6, rfl, by rw [HSW.out], rfl, HLN2, HRN2, HP, HS7, HB7⟩
              case measure => have := HUN.out; simp [nI]; omega
        · have gp : decide (0 < sumL (tsOf l ns)) = false := decide_eq_false hpos
          obtain ⟨d1, d2⟩ := hrn.done (by omega)
          have hrb : runB l = true := by rw [HB.out]; exact d1
          have hrs : runS l = s := by rw [runS_yes hrb, d2]
          have HRS := hide hrs
          have HRB := hide hrb
          have HZ := hide hz
          generalize sumL (tsOf l ns) = sm at *
          clear hrn d1 d2 hrb hrs hz hpos
          go_wp2
          exact bodyPost_ret (v := .tuple #[.slice A9 s.length c9, .bool true, .int .i64 0]) (by simp [results, Try.results24, go_sem]) rfl ⟨A9, c9, by rw [HRS.out, HRB.out, HZ.out], by rw [HRS.out]; exact HS9.out, HBw.out⟩
theorem run24 (A : Option Addr) (c : Nat) (l : List Jb) (w : World) (hS : Sl jbC 5 w A c l) : Calls Try.prog 24 #[.slice A l.length c] w (RunE l w) := by
  by_cases hz : chk l = 0
  · exact run24_good A c l w hS hz
  · have hlc := hS.le
    have hc := hS.max
    have K28 := hide (check28 A c l w hS)
    have hrb : runB l = false := by unfold runB; rw [decide_eq_false hz]; rfl
    have HRS := hide (runS_no hrb)
    have HRB := hide hrb
    have gz : (chk l != 0) = true := by simpa using hz
    have HZ := hide (show chk l = chk l from rfl)
    generalize hq : chk l = z at K28 gz
    have HQ := hide hq
    clear hS hz hrb HZ hq
    go_enter Try.func24, Try.ntmps24
    go_wp2_with fail
    refine K28.out.mono ?_
    rintro e w1 ⟨rfl, hb⟩
    have HB := hide hb
    clear hb K28
    go_wp2
    exact bodyPost_ret (v := .tuple #[.slice none 0 0, .bool false, .int .i64 z]) (by simp [results, Try.results24, go_sem]) rfl ⟨none, 0, by rw [HRS.out, HRB.out, HQ.out]; rfl, by rw [HRS.out]; exact Sl.nil (by decide), HB.out⟩
end Go.Proofs.Ytbkokljelopcnaa
