/-
  queue: right jobs.
  queue: right jobs, in the reference.
  queue: spans that are too full; small functions.
  queue: is a span too full?
  queue: functions of the reference.
  queue: what is next, and which job is first, in the reference.
  queue: add of the reference.
  queue: add of the reference, where it joins.
  queue: Run of the reference.
-/
import Derived.Test.YtnngemgfochodaaGreatRows
import Derived.Test.YtnngemgfochodaaGreatTM7
import Derived.Test.YtnngemgfochodaaGreatRel
import Derived.Test.YtnngemgfochodaaGreatBase2
import Derived.Test.YtnngemgfochodaaGreatBlk
import Derived.Test.YtnngemgfochodaaGreatPush2
import Derived.BigQuiet
import Derived.Test.YtnngemgfochodaaGreatOwnAt
namespace Go.Proofs.YtnngemgfochodaaGreat.J
open Go.Proofs.YtnngemgfochodaaGreat
open Go.RowKit Go.Mine Go.Mine.Q
def jbC (x : Jb) : List Value := [.int .i64 x.no, .int .i64 x.ready, .int .i64 x.due, .int .i64 x.need, .bool x.alt]
def jbV (x : Jb) : Value := .agg (jbC x).toArray
def sxC (x : Sx) : List Value := [.int .i64 x.no, .int .i64 x.f, .int .i64 x.u]
def sxV (x : Sx) : Value := .agg (sxC x).toArray
theorem Sl.jb_at {w : World} {A : Option Addr} {c : Nat} {l : List Jb} (h : Sl jbC 5 w A c l) {k : Nat} (hk : k < l.length) : ∃ (x : Jb) (b off : Nat), l[k]? = some x ∧ l.drop k = x :: l.drop (k + 1) ∧ A = some ⟨b, off, none⟩ ∧ b < w.heap.size ∧
    w.cell? ⟨b, off + k * 5, none⟩ = some (.int .i64 x.no) ∧ w.cell? ⟨b, off + k * 5 + 1, none⟩ = some (.int .i64 x.ready) ∧ w.cell? ⟨b, off + k * 5 + 2, none⟩ = some (.int .i64 x.due) ∧ w.cell? ⟨b, off + k * 5 + 3, none⟩ = some (.int .i64 x.need) ∧ w.cell? ⟨b, off + k * 5 + 4, none⟩ = some (.bool x.alt) := by
  obtain ⟨x, b, off, hx, hd, e, hb, hc⟩ := h.at_ hk
  exact ⟨x, b, off, hx, hd, e, hb, by simpa using hc 0 _ rfl, hc 1 _ rfl, hc 2 _ rfl, hc 3 _ rfl, hc 4 _ rfl⟩
theorem Sl.sx_at {w : World} {A : Option Addr} {c : Nat} {l : List Sx} (h : Sl sxC 3 w A c l) {k : Nat} (hk : k < l.length) : ∃ (x : Sx) (b off : Nat), l[k]? = some x ∧ l.drop k = x :: l.drop (k + 1) ∧ A = some ⟨b, off, none⟩ ∧ b < w.heap.size ∧
    w.cell? ⟨b, off + k * 3, none⟩ = some (.int .i64 x.no) ∧ w.cell? ⟨b, off + k * 3 + 1, none⟩ = some (.int .i64 x.f) ∧ w.cell? ⟨b, off + k * 3 + 2, none⟩ = some (.int .i64 x.u) := by
  obtain ⟨x, b, off, hx, hd, e, hb, hc⟩ := h.at_ hk
  exact ⟨x, b, off, hx, hd, e, hb, by simpa using hc 0 _ rfl, hc 1 _ rfl, hc 2 _ rfl⟩
/-- what lies below a block is kept -/
theorem _root_.Go.Mine.Sl.under {α : Type} {f : α → List Value} {sz : Nat} {w w' : World} {A : Option Addr} {c p : Nat} {l : List α} (h : Sl f sz w A c l) (hb : Below p w w') (hA : l ≠ [] → ∀ b off, A = some ⟨b, off, none⟩ → b < p) : Sl f sz w' A c l :=
  ⟨h.le, h.max, h.size, fun hn => by
    obtain ⟨b, off, e, hbw, hc⟩ := h.cells hn
    exact ⟨b, off, e, Nat.lt_of_lt_of_le hbw hb.size, fun i v hv => (hb.cell (p := ⟨b, off + i, none⟩) (hA hn b off e)).trans (hc i v hv)⟩⟩
def fineB (m : Int) (x : Jb) : Bool := decide (m < x.no) && (decide (x.no ≤ 1048576) && (decide (0 ≤ x.ready) && (decide (x.ready < x.due) && (decide (x.due ≤ 1099511627776) && (decide (0 < x.need) && (decide (x.need ≤ 1048576)))))))
def okGo : Int → List Jb → Bool
  | _, [] => true
  | m, x :: l => fineB m x && okGo x.no l
theorem okGo_is : ∀ (l : List Jb) (m : Int), -1 ≤ m → okGo m l = (l.all rightJ && incJ m l)
  | [], m, _ => rfl
  | x :: l, m, hm => by
    simp only [okGo, List.all_cons, incJ]
    have e : fineB m x = (rightJ x && decide (m < x.no)) := by
      rw [Bool.eq_iff_iff]
      simp only [fineB, rightJ, Bool.and_eq_true, decide_eq_true_eq]
      omega
    rw [e]
    by_cases h : m < x.no
    · rw [okGo_is l x.no (by omega)]
      cases rightJ x <;> cases l.all rightJ <;> cases incJ x.no l <;> simp
    · rw [decide_eq_false h]; simp
theorem okGo_ok (l : List Jb) : okGo (-1) l = okL l := okGo_is l (-1) (by omega)
theorem chain7 : ∀ (a b c d e f g : Bool), (a = false) ∨ (a = true ∧ b = false) ∨ (a = true ∧ b = true ∧ c = false) ∨ (a = true ∧ b = true ∧ c = true ∧ d = false) ∨ (a = true ∧ b = true ∧ c = true ∧ d = true ∧ e = false) ∨ (a = true ∧ b = true ∧ c = true ∧ d = true ∧ e = true ∧ f = false) ∨ (a = true ∧ b = true ∧ c = true ∧ d = true ∧ e = true ∧ f = true ∧ g = false) ∨ (a = true ∧ b = true ∧ c = true ∧ d = true ∧ e = true ∧ f = true ∧ g = true) := by
  intro a b c d e f g; cases a <;> cases b <;> cases c <;> cases d <;> cases e <;> cases f <;> cases g <;> simp
set_option maxHeartbeats 2000000 in
theorem odd47 (x : Jb) (m : Int) (p : Nat) (w : World) (hp : Blk w p 3 #[.int .i64 m]) :
    Calls Tryz.prog 68 #[jbV x, .pointer (some ⟨p, 0, none⟩)] w fun e w' => e = .returned (.bool (!fineB m x)) ∧ Blk w' p 3 #[.int .i64 x.no] ∧ Below p w w' := by
  have HE := (show fineB m x = (decide (m < x.no) && (decide (x.no ≤ 1048576) && (decide (0 ≤ x.ready) && (decide (x.ready < x.due) && (decide (x.due ≤ 1099511627776) && (decide (0 < x.need) && (decide (x.need ≤ 1048576)))))))) from rfl)
  generalize fineB m x = R at HE ⊢
  have H1 := hide ((hp.set 0 (.int .i64 x.no) rfl).alloc (.cells #[.int .i64 x.no, .int .i64 x.ready, .int .i64 x.due, .int .i64 x.need, .bool x.alt] 71))
  have H2 := hide (((Below.refl p w).setCell (p := ⟨p, 0, none⟩) (Nat.le_refl _) (.int .i64 x.no)).alloc (by have := hp.lt; simp [World.setCell]; omega) (.cells #[.int .i64 x.no, .int .i64 x.ready, .int .i64 x.due, .int .i64 x.need, .bool x.alt] 71))
  have c0 := hp.cell (v := .int .i64 m) 0 rfl
  have z0 := hp.thaw 0
  have hpl := hp.lt
  simp only [jbV, jbC]
  clear hp
  have hc := chain7 (decide (m < x.no)) (decide (x.no ≤ 1048576)) (decide (0 ≤ x.ready)) (decide (x.ready < x.due)) (decide (x.due ≤ 1099511627776)) (decide (0 < x.need)) (decide (x.need ≤ 1048576))
  rcases hc with g1 | ⟨g1, g2⟩ | ⟨g1, g2, g3⟩ | ⟨g1, g2, g3, g4⟩ | ⟨g1, g2, g3, g4, g5⟩ | ⟨g1, g2, g3, g4, g5, g6⟩ | ⟨g1, g2, g3, g4, g5, g6, g7⟩ | ⟨g1, g2, g3, g4, g5, g6, g7⟩
  · rw [g1] at HE
    have HE := hide HE
    go_enter Tryz.func68, Tryz.ntmps68
    go_wp2
    go_ret
    exact ⟨ret_bool (by rw [HE.out]; rfl), H1.out, H2.out⟩
  · rw [g1, g2] at HE
    have HE := hide HE
    go_enter Tryz.func68, Tryz.ntmps68
    go_wp2
    go_ret
    exact ⟨ret_bool (by rw [HE.out]; rfl), H1.out, H2.out⟩
  · rw [g1, g2, g3] at HE
    have HE := hide HE
    go_enter Tryz.func68, Tryz.ntmps68
    go_wp2
    go_ret
    exact ⟨ret_bool (by rw [HE.out]; rfl), H1.out, H2.out⟩
  · rw [g1, g2, g3, g4] at HE
    have HE := hide HE
    go_enter Tryz.func68, Tryz.ntmps68
    go_wp2
    go_ret
    exact ⟨ret_bool (by rw [HE.out]; rfl), H1.out, H2.out⟩
  · rw [g1, g2, g3, g4, g5] at HE
    have HE := hide HE
    go_enter Tryz.func68, Tryz.ntmps68
    go_wp2
    go_ret
    exact ⟨ret_bool (by rw [HE.out]; rfl), H1.out, H2.out⟩
  · rw [g1, g2, g3, g4, g5, g6] at HE
    have HE := hide HE
    go_enter Tryz.func68, Tryz.ntmps68
    go_wp2
    go_ret
    exact ⟨ret_bool (by rw [HE.out]; rfl), H1.out, H2.out⟩
  · rw [g1, g2, g3, g4, g5, g6, g7] at HE
    have HE := hide HE
    go_enter Tryz.func68, Tryz.ntmps68
    go_wp2
    go_ret
    exact ⟨ret_bool (by rw [HE.out]; rfl), H1.out, H2.out⟩
  · rw [g1, g2, g3, g4, g5, g6, g7] at HE
    have HE := hide HE
    go_enter Tryz.func68, Tryz.ntmps68
    go_wp2
    go_ret
    exact ⟨ret_bool (by rw [HE.out]; rfl), H1.out, H2.out⟩
set_option maxHeartbeats 2000000 in
theorem index59 (A : Option Addr) (c : Nat) (l : List Jb) (m : Int) (p : Nat) (w : World) (hS : Sl jbC 5 w A c l) (hp : Blk w p 3 #[.int .i64 m]) (hA : l ≠ [] → ∀ b off, A = some ⟨b, off, none⟩ → b < p) :
    Calls Tryz.prog 82 #[.slice A l.length c, .func (.func 68) #[] #[.pointer (some ⟨p, 0, none⟩)]] w fun e w' => (∃ i : Int, e = .returned (.int .i64 i) ∧ decide (0 ≤ i) = !okGo m l) ∧ Below p w w' := by
  have hlc := hS.le
  have hc := hS.max
  have K := hide (fun x m w hp => odd47 x m p w hp)
  have HS := hide hS
  have HP := hide hp
  have hpl := hp.lt
  clear hS hp
  go_enter Tryz.func82, Tryz.ntmps82
  go_wp2
  go_loopw [5, 8] (fun _ i wr => ∃ (k : Nat) (m' : Int), k ≤ l.length ∧ i = .int .i64 k ∧ Hid (okGo m l = okGo m' (l.drop k)) ∧ Hid (Blk wr p 3 #[.int .i64 m']) ∧ Hid (Below p w wr)) (fun _ i _ => l.length - (nI i).toNat)
  case atStart => exact ⟨0, m, Nat.zero_le _, rfl, rfl, HP, Below.refl _ _⟩
  case round =>
    clear HP
    obtain ⟨k, m', hk, rfl, HQ, HP, HB⟩ := hrel
    by_cases hlt : k < l.length
    · obtain ⟨x0, b0, off0, _, _, rfl, _⟩ := Sl.jb_at HS.out hlt
      have hbp := hA (by intro e; subst e; simp at hlt) b0 off0 rfl
      obtain ⟨x, b, off, hx, hdr, hAA, hbw, c0, c1, c2, c3, c4⟩ := Sl.jb_at (HS.out.under HB.out (fun _ b off e => by cases e; exact hbp)) hlt
      cases hAA
      have hq := HQ.out
      rw [hdr, okGo] at hq
      have K1 := hide (K.out x m' wr HP.out)
      generalize fineB m' x = r at K1 hq
      simp only [jbV, jbC] at K1
      clear hdr hx HQ
      cases r
      · rw [Bool.false_and] at hq
        have H := hide hq
        clear hq
        go_wp2_with fail
        refine (K1.out).mono ?_
        rintro e w' ⟨rfl, hb1, hb2⟩
        have HBe := hide (HB.out.trans hb2)
        clear hb1 hb2 HB c0 c1 c2 c3 c4
        go_wp2
        go_ret
        exact ⟨⟨_, rfl, by rw [H.out]; simp⟩, HBe.out⟩
      · rw [Bool.true_and] at hq
        have H := hide hq
        clear hq
        go_wp2_with fail
        refine (K1.out).mono ?_
        rintro e w' ⟨rfl, hb1, hb2⟩
        have HBe := hide (HB.out.trans hb2)
        have HP1 := hide hb1
        clear hb1 hb2 HB c0 c1 c2 c3 c4
        go_wp2
        go_roundw
        case rel => exact ⟨k + 1, _, by omega, by go_num, H, HP1, HBe⟩
        case measure => simp [nI]; omega
    · have hq := HQ.out
      rw [List.drop_of_length_le (by omega)] at hq
      have H := hide hq
      clear hq
      go_wp2
      go_ret
      exact ⟨⟨_, rfl, by rw [H.out]; rfl⟩, HB.out⟩
theorem contains48 (A : Option Addr) (c : Nat) (l : List Jb) (m : Int) (p : Nat) (w : World) (hS : Sl jbC 5 w A c l) (hp : Blk w p 3 #[.int .i64 m]) (hA : l ≠ [] → ∀ b off, A = some ⟨b, off, none⟩ → b < p) :
    Calls Tryz.prog 69 #[.slice A l.length c, .func (.func 68) #[] #[.pointer (some ⟨p, 0, none⟩)]] w fun e w' => e = .returned (.bool (!okGo m l)) ∧ Below p w w' := by
  have K := hide (index59 A c l m p w hS hp hA)
  generalize okGo m l = r at K
  clear hp hS hA
  go_enter Tryz.func69, Tryz.ntmps69
  go_wp2_with fail
  refine (K.out).mono ?_
  rintro e w' ⟨⟨i, rfl, hi⟩, hb⟩
  have HB := hide hb
  clear hb K
  go_wp2
  go_ret
  exact ⟨ret_bool (by first | rfl | exact hi), HB.out⟩
theorem check27 (A : Option Addr) (c : Nat) (l : List Jb) (w : World) (hS : Sl jbC 5 w A c l) :
    Calls Tryz.prog 56 #[.slice A l.length c] w fun e w' => e = .returned (.int .i64 (chk l)) ∧ Below w.heap.size w w' := by
  have hlc := hS.le
  have hc := hS.max
  by_cases h4 : 64 < l.length
  · have E := hide (show chk l = 2 by unfold chk; rw [if_pos h4])
    have g4 : decide ((64 : Int) < l.length) = true := by simp; omega
    generalize chk l = R at E ⊢
    clear hS
    go_enter Tryz.func56, Tryz.ntmps56
    go_wp2
    go_ret
    exact ⟨ret_int E.out.symm, Below.refl _ _⟩
  · have g4 : decide ((64 : Int) < l.length) = false := by simp; omega
    have E := hide (show chk l = if okGo (-1) l = true then 0 else 420 by unfold chk; rw [if_neg h4, okGo_ok])
    have hA : l ≠ [] → ∀ b off, A = some ⟨b, off, none⟩ → b < w.heap.size := fun hn b off e => by
      obtain ⟨b1, off1, e1, hb, _⟩ := hS.cells hn
      rw [e] at e1; cases e1; exact hb
    have K := hide (contains48 A c l (-1) w.heap.size (w.alloc (.cells #[.int .i64 (-1)] 3)) (hS.alloc _) (Blk.new w _ 3) hA)
    generalize okGo (-1) l = r at K E
    generalize chk l = R at E ⊢
    clear hS hA
    cases r
    all_goals
      go_enter Tryz.func56, Tryz.ntmps56
      go_wp2_with fail
      refine (K.out).mono ?_
      rintro e w' ⟨rfl, hb⟩
      have HB := hide (((Below.refl w.heap.size w).alloc (Nat.le_refl _) (.cells #[.int .i64 (-1)] 3)).trans hb)
      clear hb K
      go_wp2
      go_ret
      exact ⟨ret_int (by rw [E.out]; rfl), HB.out⟩
end Go.Proofs.YtnngemgfochodaaGreat.J
namespace Go.Proofs.YtnngemgfochodaaGreat.J
open Go.Proofs.YtnngemgfochodaaGreat
open Go.RowKit Go.Mine Go.Mine.Q
theorem chain7' : ∀ (a b c d e f g : Bool), (a = true) ∨ (a = false ∧ b = true) ∨ (a = false ∧ b = false ∧ c = true) ∨ (a = false ∧ b = false ∧ c = false ∧ d = true) ∨ (a = false ∧ b = false ∧ c = false ∧ d = false ∧ e = true) ∨ (a = false ∧ b = false ∧ c = false ∧ d = false ∧ e = false ∧ f = true) ∨ (a = false ∧ b = false ∧ c = false ∧ d = false ∧ e = false ∧ f = false ∧ g = true) ∨ (a = false ∧ b = false ∧ c = false ∧ d = false ∧ e = false ∧ f = false ∧ g = false) := by
  intro a b c d e f g; cases a <;> cases b <;> cases c <;> cases d <;> cases e <;> cases f <;> cases g <;> simp
theorem fine_ref (x : Jb) (m : Int) (hm : -1 ≤ m) : fineB m x = (!decide (x.no < 0) && (!decide (1048576 < x.no) && (!decide (x.ready < 0) && (!decide (x.due ≤ x.ready) && (!decide (1099511627776 < x.due) && (!decide (x.need < 1) && (!decide (1048576 < x.need) && decide (m < x.no)))))))) := by
  rw [Bool.eq_iff_iff]
  simp only [fineB, Bool.and_eq_true, decide_eq_true_eq, Bool.not_eq_true', decide_eq_false_iff_not]
  omega
end Go.Proofs.YtnngemgfochodaaGreat.J
namespace Go.Proofs.YtnngemgfochodaaGreat.J
open Go.Proofs.YtnngemgfochodaaGreat
open Go.RowKit Go.Mine Go.Mine.Q
def fewB (l : List Jb) (s : List Sx) : Bool := decide (l.length ≤ 70) && decide (s.length ≤ 300)
theorem wrk_take {l : List Jb} {k : Nat} {x : Jb} (h : l[k]? = some x) (a b : Int) : wrk (l.take (k + 1)) a b = wrk (l.take k) a b + (if inS a b x = true then x.need else 0) := by
  unfold wrk
  rw [take_of_get h, sumF_append]
  simp [sumF]
theorem wrk_bound {l : List Jb} (h : ∀ x ∈ l, rightJ x = true) (a b : Int) (k : Nat) : 0 ≤ wrk (l.take k) a b ∧ wrk (l.take k) a b ≤ k * 1048576 := by
  have hr : ∀ y ∈ l.take k, 0 ≤ (if inS a b y = true then y.need else 0) ∧ (if inS a b y = true then y.need else 0) ≤ 1048576 := fun y hy => by
    have := rightJ_iff.1 (h y (List.mem_of_mem_take hy))
    split <;> omega
  refine ⟨sumF_nonneg fun y hy => (hr y hy).1, ?_⟩
  have h1 := sumF_bound (l := l.take k) fun y hy => (hr y hy).2
  have h2 : (l.take k).length ≤ k := by simp; omega
  unfold wrk
  omega
end Go.Proofs.YtnngemgfochodaaGreat.J
namespace Go.Proofs.YtnngemgfochodaaGreat.J
open Go.Proofs.YtnngemgfochodaaGreat
open Go.RowKit Go.Mine Go.Mine.Q
theorem chain3 : ∀ (a b c : Bool), (a = true) ∨ (a = false ∧ b = true) ∨ (a = false ∧ b = false ∧ c = true) ∨ (a = false ∧ b = false ∧ c = false) := by
  intro a b c; cases a <;> cases b <;> cases c <;> simp
theorem full_ref (l : List Jb) (f u : Int) : full l f u = (!decide (f < 0) && (!decide (u ≤ f) && (!decide (1099511627776 < u) && decide (u - f < wrk l f u)))) := by
  rw [Bool.eq_iff_iff]
  simp only [full, Bool.and_eq_true, decide_eq_true_eq, Bool.not_eq_true', decide_eq_false_iff_not]
  omega
set_option maxHeartbeats 2000000 in
theorem full40 (A : Option Addr) (c : Nat) (l : List Jb) (f u : Int) (w : World) (hS : Sl jbC 5 w A c l) (h : ∀ x ∈ l, rightJ x = true) (h64 : l.length ≤ 64) :
    Calls Tryz.prog 59 #[.slice A l.length c, .agg #[.int .i64 f, .int .i64 u]] w fun e w' => e = .returned (.bool (full l f u)) ∧ Below w.heap.size w w' := by
  have hlc := hS.le
  have hc := hS.max
  have HWB := hide (fun k => wrk_bound h f u k)
  have HR := hide h
  have HS := hide hS
  have X0 := Blk.new w #[.int .i64 f, .int .i64 u] 76
  have HB0 := hide (kalloc (Below.refl w.heap.size w) (.cells #[.int .i64 f, .int .i64 u] 76))
  have hf := full_ref l f u
  generalize full l f u = R at hf ⊢
  clear h hS
  rcases chain3 (decide (f < 0)) (decide (u ≤ f)) (decide (1099511627776 < u)) with g1 | ⟨g1, g2⟩ | ⟨g1, g2, g3⟩ | ⟨g1, g2, g3⟩
  case inl =>
    rw [g1] at hf
    have HF := hide hf
    clear hf X0
    go_enter Tryz.func59, Tryz.ntmps59
    go_wp2
    go_ret
    exact ⟨ret_bool (by rw [HF.out]; rfl), HB0.out⟩
  case inr.inl =>
    rw [g1, g2] at hf
    have HF := hide hf
    clear hf X0
    go_enter Tryz.func59, Tryz.ntmps59
    go_wp2
    go_ret
    exact ⟨ret_bool (by rw [HF.out]; rfl), HB0.out⟩
  case inr.inr.inl =>
    rw [g1, g2, g3] at hf
    have HF := hide hf
    clear hf X0
    go_enter Tryz.func59, Tryz.ntmps59
    go_wp2
    go_ret
    exact ⟨ret_bool (by rw [HF.out]; rfl), HB0.out⟩
  case inr.inr.inr =>
    rw [g1, g2, g3] at hf
    simp only [Bool.not_false, Bool.true_and] at hf
    have HF := hide hf
    have b1 := of_decide_eq_false g1
    have b2 := of_decide_eq_false g2
    have b3 := of_decide_eq_false g3
    have hw0 : IntKind.i64.wrap (u - f) = u - f := by rw [IntKind.wrap_i64]; omega
    have X1 := hide X0
    have HBD := hide (show 0 ≤ u - f ∧ u - f ≤ 1099511627776 by omega)
    clear hf X0 b1 b2 b3
    go_enter Tryz.func59, Tryz.ntmps59
    go_wp2
    clear g1 g2 g3
    go_loopw [5, 7, 30] (fun n _ i wr => ∃ k : Nat, k ≤ l.length ∧ i = .int .i64 k ∧ n = .int .i64 (u - f - wrk (l.take k) f u) ∧ Hid (Blk wr w.heap.size 76 #[.int .i64 f, .int .i64 u]) ∧ Hid (Below w.heap.size w wr)) (fun _ _ i _ => l.length - (nI i).toNat)
    case atStart => exact ⟨0, Nat.zero_le _, rfl, by simp [wrk, sumF], X1, HB0⟩
    case round =>
      clear X1 HB0
      obtain ⟨k, hk, rfl, rfl, X, HB⟩ := hrel
      by_cases hlt : k < l.length
      · obtain ⟨x, bb, off, hx, hdr, rfl, hbw, c0, c1, c2, c3, c4⟩ := Sl.jb_at (HS.out.bel HB.out) hlt
        have HN := hide (wrk_take hx f u)
        have hb1 := HWB.out k
        have hbd := HBD.out
        have hxr := rightJ_iff.1 (HR.out x (List.mem_of_getElem? hx))
        have kz : (k : Int) < (l.length : Int) := by omega
        have hw : IntKind.i64.wrap (u - f - wrk (l.take k) f u - x.need) = u - f - wrk (l.take k) f u - x.need := by rw [IntKind.wrap_i64]; omega
        have y0 := X.out.cell (v := .int .i64 f) 0 rfl
        have y1 := X.out.cell (v := .int .i64 u) 1 rfl
        have yl := X.out.lt
        have X2 := hide (X.out.alloc (.cells #[.int .i64 x.no, .int .i64 x.ready, .int .i64 x.due, .int .i64 x.need, .bool x.alt] 71))
        have HB2 := hide (kalloc HB.out (.cells #[.int .i64 x.no, .int .i64 x.ready, .int .i64 x.due, .int .i64 x.need, .bool x.alt] 71))
        generalize wrk (l.take k) f u = s0 at *
        clear hdr hx hb1 hxr hbd HB X
        rcases Bool.eq_false_or_eq_true (decide (f ≤ x.ready)) with g1 | g1
        · rcases Bool.eq_false_or_eq_true (decide (x.due ≤ u)) with g2 | g2
          · have H2 := hide (HN.out.trans (by rw [if_pos (by unfold inS; rw [g1, g2]; rfl)] : _ = s0 + x.need))
            clear HN
            go_wp2
            go_roundw
            case rel => exact ⟨k + 1, by omega, by go_num, by rw [H2.out]; congr 1; omega, X2, HB2⟩
            case measure => simp [nI]; omega
          · have H2 := hide (HN.out.trans (by rw [if_neg (by unfold inS; rw [g1, g2]; simp)]; omega : _ = s0))
            clear HN
            go_wp2
            go_roundw
            case rel => exact ⟨k + 1, by omega, by go_num, by rw [H2.out], X2, HB2⟩
            case measure => simp [nI]; omega
        · have H2 := hide (HN.out.trans (by rw [if_neg (by unfold inS; rw [g1]; simp)]; omega : _ = s0))
          clear HN
          go_wp2
          go_roundw
          case rel => exact ⟨k + 1, by omega, by go_num, by rw [H2.out], X2, HB2⟩
          case measure => simp [nI]; omega
      · obtain rfl : k = l.length := by omega
        rw [List.take_length]
        have H2 := hide (HF.out.trans (show decide (u - f < wrk l f u) = decide (u - f - wrk l f u < 0) from decide_eq_decide.2 (by omega)))
        generalize wrk l f u = s0 at *
        clear HF X
        go_wp2
        go_ret
        exact ⟨ret_bool (by rw [H2.out]), HB.out⟩
/-- what Refutes answers -/
def refR (l : List Jb) (f u : Int) : Bool × Int := if chk l = 0 then (full l f u, 0) else (false, chk l)
theorem right_of {l : List Jb} (h : chk l = 0) : (∀ x ∈ l, rightJ x = true) ∧ l.length ≤ 64 ∧ okL l = true := by
  obtain ⟨h1, h2⟩ := chk_zero.1 h
  exact ⟨(okL_iff.1 h2).1, h1, h2⟩
theorem refutes19 (A : Option Addr) (c : Nat) (l : List Jb) (f u : Int) (w : World) (hS : Sl jbC 5 w A c l) :
    Calls Tryz.prog 33 #[.slice A l.length c, .agg #[.int .i64 f, .int .i64 u]] w fun e w' => e = .returned (.tuple #[.bool (refR l f u).1, .int .i64 (refR l f u).2]) ∧ Below w.heap.size w w' := by
  have X0 := hide (Blk.new w #[.int .i64 f, .int .i64 u] 76)
  have HB0 := hide (kalloc (Below.refl w.heap.size w) (.cells #[.int .i64 f, .int .i64 u] 76))
  have K := hide (check27 A c l _ (hS.bel HB0.out))
  by_cases hz : chk l = 0
  · obtain ⟨h1, h2, _⟩ := right_of hz
    have K2 := hide (fun W (hb : Below w.heap.size w W) => full40 A c l f u W (hS.bel hb) h1 h2)
    have HE := hide (show refR l f u = (full l f u, 0) by unfold refR; rw [if_pos hz])
    rw [hz] at K
    generalize refR l f u = R at *
    generalize full l f u = r at *
    clear hS
    go_enter Tryz.func33, Tryz.ntmps33
    go_wp2_with fail
    refine K.out.mono ?_
    rintro e w1 ⟨rfl, hb⟩
    have HB := hide (kcall HB0.out hb)
    have X := X0.out.bel hb
    have y0 := X.cell (v := .int .i64 f) 0 rfl
    have y1 := X.cell (v := .int .i64 u) 1 rfl
    have yl := X.lt
    clear hb K X0 X HB0
    go_wp2_with fail
    refine (K2.out _ HB.out).mono ?_
    rintro e w2 ⟨rfl, hb⟩
    have HB2 := hide (kcall HB.out hb)
    clear hb K2 y0 y1 yl
    go_wp2
    exact bodyPost_ret (v := .tuple #[.bool r, .int .i64 0]) (by simp [results, Tryz.results33, go_sem]) rfl ⟨by rw [HE.out], HB2.out⟩
  · have HE := hide (show refR l f u = (false, chk l) by unfold refR; rw [if_neg hz])
    have gz : (chk l != 0) = true := by simpa using hz
    generalize refR l f u = R at *
    generalize chk l = z at *
    clear hS
    go_enter Tryz.func33, Tryz.ntmps33
    go_wp2_with fail
    refine K.out.mono ?_
    rintro e w1 ⟨rfl, hb⟩
    have HB := hide (kcall HB0.out hb)
    clear hb K X0 HB0
    go_wp2
    exact bodyPost_ret (v := .tuple #[.bool false, .int .i64 z]) (by simp [results, Tryz.results33, go_sem]) rfl ⟨by rw [HE.out], HB.out⟩
def rightR (l : List Jb) : Bool := decide (l.length ≤ 70) && decide (chk l = 0)
end Go.Proofs.YtnngemgfochodaaGreat.J
namespace Go.Proofs.YtnngemgfochodaaGreat.J
open Go.Proofs.YtnngemgfochodaaGreat
open Go.RowKit Go.Mine Go.Mine.Q
/-- the index of a job -/
def ixJ (l : List Jb) (n : Int) : Nat → Int
  | k => match l with
    | [] => -1
    | x :: r => if x.no = n then (k : Int) else ixJ r n (k + 1)
theorem ixJ_cons (x : Jb) (r : List Jb) (n : Int) (k : Nat) : ixJ (x :: r) n k = if x.no = n then (k : Int) else ixJ r n (k + 1) := by rw [ixJ]
theorem ixJ_nil (n : Int) (k : Nat) : ixJ [] n k = -1 := by rw [ixJ]
theorem ixJ_job : ∀ (l : List Jb) (n : Int) (k : Nat), (ixJ l n k = -1 ∧ jobOf l n = none) ∨ ∃ i x, l[i]? = some x ∧ ixJ l n k = ((k + i : Nat) : Int) ∧ jobOf l n = some x ∧ x.no = n
  | [], n, k => .inl ⟨ixJ_nil n k, rfl⟩
  | x :: r, n, k => by
    rw [ixJ_cons]
    unfold jobOf
    rw [List.find?_cons]
    by_cases h : x.no = n
    · right
      exact ⟨0, x, rfl, by rw [if_pos h]; rfl, by rw [decide_eq_true h], h⟩
    · rw [if_neg h, decide_eq_false h]
      rcases ixJ_job r n (k + 1) with ⟨h1, h2⟩ | ⟨i, y, h1, h2, h3, h4⟩
      · exact .inl ⟨h1, h2⟩
      · exact .inr ⟨i + 1, y, by simpa using h1, by rw [h2]; congr 1; omega, h3, h4⟩
end Go.Proofs.YtnngemgfochodaaGreat.J
namespace Go.Proofs.YtnngemgfochodaaGreat.J
open Go.Proofs.YtnngemgfochodaaGreat
open Go.RowKit Go.Mine Go.Mine.Q
def nextJ (t : Int) : List Jb → Option Int
  | [] => none
  | x :: l => match nextJ t l with
    | none => if t < x.ready then some x.ready else none
    | some u => if t < x.ready ∧ x.ready < u then some x.ready else some u
theorem next_js (t : Int) : ∀ ts : List Tk, next t ts = nextJ t (js ts)
  | [] => rfl
  | x :: l => by
    show next t (x :: l) = nextJ t (x.j :: js l)
    simp only [next, nextJ, next_js t l]
    cases nextJ t (js l) <;> rfl
/-- the next time, so far -/
def nxF (t : Int) : List Jb → Int → Int
  | [], n => n
  | x :: l, n => nxF t l (if t < x.ready then (if x.ready < n then x.ready else n) else n)
theorem nxF_is (t : Int) : ∀ (l : List Jb) (n : Int), nxF t l n = match nextJ t l with
    | none => n
    | some u => if u < n then u else n
  | [], n => rfl
  | x :: l, n => by
    rw [nxF, nxF_is t l]
    simp only [nextJ]
    cases nextJ t l with
    | none =>
      simp only
      by_cases h : t < x.ready
      · rw [if_pos h, if_pos h]
      · rw [if_neg h, if_neg h]
    | some u =>
      by_cases h : t < x.ready <;> by_cases h2 : x.ready < u <;> simp only [h, h2, and_self, and_true, and_false, if_true, if_false] <;> (repeat' split) <;> omega
/-- a time after all dues, if there is none -/
def nxI (t : Int) (l : List Jb) : Int := (nextJ t l).getD 2199023255552
theorem nextJ_mem {t u : Int} {l : List Jb} (h : nextJ t l = some u) : ∃ y ∈ l, y.ready = u := by
  have h1 : next t (Go.Mine.Q.start l) = some u := by rw [next_js, js_start]; exact h
  obtain ⟨_, ⟨y, hy, hr⟩, _⟩ := next_some h1
  obtain ⟨z, hz, rfl⟩ := List.mem_map.1 hy
  exact ⟨z, hz, hr⟩
theorem nxF_I {l : List Jb} (h : ∀ x ∈ l, rightJ x = true) (t : Int) : nxF t l 2199023255552 = nxI t l := by
  rw [nxF_is]
  unfold nxI
  cases hn : nextJ t l with
  | none => rfl
  | some u =>
    obtain ⟨y, hy, rfl⟩ := nextJ_mem hn
    have := rightJ_iff.1 (h y hy)
    simp only [Option.getD_some]
    rw [if_pos (by omega)]
def tsOf (l : List Jb) (ns : List Int) : List Tk := List.zipWith Tk.mk l ns
theorem tsOf_get {l : List Jb} {ns : List Int} {k : Nat} {x : Jb} {n : Int} (h1 : l[k]? = some x) (h2 : ns[k]? = some n) : (tsOf l ns)[k]? = some ⟨x, n⟩ := by
  unfold tsOf; rw [List.getElem?_zipWith, h1, h2]
theorem tsOf_len {l : List Jb} {ns : List Int} (h : ns.length = l.length) : (tsOf l ns).length = l.length := by unfold tsOf; simp; omega
theorem tsOf_drop (l : List Jb) (ns : List Int) (k : Nat) : (tsOf l ns).drop k = tsOf (l.drop k) (ns.drop k) := by unfold tsOf; rw [List.drop_zipWith]
theorem tsOf_cons (x : Jb) (l : List Jb) (n : Int) (ns : List Int) : tsOf (x :: l) (n :: ns) = ⟨x, n⟩ :: tsOf l ns := rfl
theorem js_tsOf {l : List Jb} {ns : List Int} (h : ns.length = l.length) : js (tsOf l ns) = l := by
  unfold js tsOf
  rw [List.map_zipWith]
  refine List.ext_getElem? fun k => ?_
  rw [List.getElem?_zipWith]
  by_cases hk : k < l.length
  · rw [List.getElem?_eq_getElem hk, List.getElem?_eq_getElem (show k < ns.length by omega)]
  · rw [List.getElem?_eq_none (by omega)]
def bI : Option (Nat × Tk) → Int
  | none => -1
  | some (i, _) => (i : Int)
end Go.Proofs.YtnngemgfochodaaGreat.J
namespace Go.Proofs.YtnngemgfochodaaGreat.J
open Go.Proofs.YtnngemgfochodaaGreat
open Go.RowKit Go.Mine Go.Mine.Q
theorem Try_info104 : (Tryz.prog.info? 104).map (fun i => (i.zero, i.size, i.bytes)) = some (some (.agg #[.int .i64 0, .int .i64 0, .int .i64 0]), 3, 24) := by kernel_rfl
theorem sx_one (x : Sx) : ∀ u ∈ sxC x, u.oneCell' = true := by
  intro u hu; simp [sxC] at hu; rcases hu with rfl | rfl | rfl <;> rfl
theorem _root_.Go.Mine.OwnL.base_le {α : Type} {f : α → List Value} {sz : Nat} {e : TypeId} {w : World} {b b' : Nat} {v : Value} {l : List α} (h : OwnL f sz e w b v l) (hb : b' ≤ b) : OwnL f sz e w b' v l := by
  obtain ⟨⟨h1, h2⟩, h3⟩ := h
  refine ⟨⟨h1, ?_⟩, h3⟩
  rcases h2 with h2 | ⟨g, cap, cur, r1, r2, r3⟩
  · exact .inl h2
  · exact .inr ⟨g, cap, cur, r1, Nat.le_trans hb r2, r3⟩
theorem run_ext_sx {P : Program} {w : World} {t ty e : TypeId} {base : Nat} {i : TypeInfo} {z : Value} {bytes : Nat} (ht : P.underlying t = some (.slice e)) (hi : P.info? e = some i) (hz : i.zero = some z)
    (hsize : i.size = 3) (hby : i.bytes = bytes) (hzs : z.cells.size = 3) {v : Value} {l1 l2 : List Sx} (hown : OwnL sxC 3 e w base v l1) {A : Option Addr} {c n : Nat} (hn : l2.length = n) (h2 : Sl sxC 3 w A c l2)
    (h63 : l1.length + n ≤ maxLen) (hbytes : (l1.length + n) * bytes ≤ 140737488355328) (hbase : base ≤ w.heap.size) :
    ∃ v' w', (Builtin.append_ #[t, t] ty #[v, .slice A n c]).run P w = .ok v' w' ∧ OwnL sxC 3 e w' base v' (l1 ++ l2) ∧ w.grownBy w' v.ownBlock ∧ (∀ g, v'.ownBlock = some g → v.ownBlock = some g ∨ w.heap.size ≤ g) := by
  subst hn
  exact run_extend ht hi hz hsize hby hzs (by decide) hown h2 (fun x _ => sx_one x) h63 hbytes hbase
def AddE (s : List Sx) (x : Sx) (w : World) (e : Ending) (w' : World) : Prop := ∃ v, e = .returned v ∧ OwnL sxC 3 104 w' w.heap.size v (addS s x) ∧ Below w.heap.size w w'
end Go.Proofs.YtnngemgfochodaaGreat.J
namespace Go.Proofs.YtnngemgfochodaaGreat.J
open Go.Proofs.YtnngemgfochodaaGreat
open Go.RowKit Go.Mine Go.Mine.Q
end Go.Proofs.YtnngemgfochodaaGreat.J
namespace Go.Proofs.YtnngemgfochodaaGreat.J
open Go.Proofs.YtnngemgfochodaaGreat
open Go.RowKit Go.Mine Go.Mine.Q
def RunE (l : List Jb) (w : World) (e : Ending) (w' : World) : Prop := ∃ A c, e = .returned (.tuple #[.slice A (runS l).length c, .bool (runB l), .int .i64 (chk l)]) ∧ Sl sxC 3 w' A c (runS l) ∧ Below w.heap.size w w'
theorem runS_no {l : List Jb} (h : runB l = false) : runS l = [] := by unfold runS; rw [h]; rfl
theorem runS_yes {l : List Jb} (h : runB l = true) : runS l = plan l := by unfold runS; rw [h]; rfl
theorem span_min {l : List Jb} {ts : List Tk} (h : js ts = l) {t : Int} (x : Tk) (hc : t + x.left < 2199023255552) : (if nxI t l < t + x.left then nxI t l else t + x.left) = t + span1 t ts x := by
  have hn : next t ts = nextJ t l := by rw [next_js, h]
  unfold nxI span1
  rw [hn]
  cases nextJ t l with
  | none => simp only [Option.getD_none]; rw [if_neg (by omega)]
  | some u => simp only [Option.getD_some]; split <;> split <;> omega
theorem start_tsOf (l : List Jb) : Go.Mine.Q.start l = tsOf l (l.map (·.need)) := by
  unfold Go.Mine.Q.start tsOf
  refine List.ext_getElem? fun k => ?_
  rw [List.getElem?_map, List.getElem?_zipWith, List.getElem?_map]
  cases l[k]? <;> rfl
theorem tsOf_set {l : List Jb} {ns : List Int} {k : Nat} {x : Jb} (h1 : l[k]? = some x) (m : Int) : (tsOf l ns).set k ⟨x, m⟩ = tsOf l (ns.set k m) := by
  unfold tsOf
  refine List.ext_getElem? fun i => ?_
  rw [List.getElem?_set, List.getElem?_zipWith, List.getElem?_zipWith, List.getElem?_set]
  by_cases h : k = i
  · subst h
    simp only [h1, if_true, List.length_zipWith]
    have := (List.getElem?_eq_some_iff.1 h1).1
    by_cases h2 : k < ns.length
    · simp [h2, this, Nat.lt_min]
    · simp [h2]; omega
  · simp only [h, if_false]
theorem tsOf_at {l : List Jb} {ns : List Int} {k : Nat} {y : Tk} (h : (tsOf l ns)[k]? = some y) : l[k]? = some y.j ∧ ns[k]? = some y.left := by
  unfold tsOf at h
  rw [List.getElem?_zipWith] at h
  cases h1 : l[k]? with
  | none => rw [h1] at h; cases h
  | some x =>
    cases h2 : ns[k]? with
    | none => rw [h1, h2] at h; cases h
    | some n => rw [h1, h2] at h; cases h; exact ⟨rfl, rfl⟩
theorem Try_info3 : (Tryz.prog.info? 3).map (fun i => (i.zero, i.size, i.bytes)) = some (some (.int .i64 0), 1, 8) := by kernel_rfl
theorem ic_one (n : Int) : ∀ u ∈ ic n, u.oneCell' = true := by intro u hu; simp [ic] at hu; subst hu; rfl
theorem need_take {l : List Jb} {k : Nat} {x : Jb} (h : l[k]? = some x) : sumF (·.need) (l.take (k + 1)) = sumF (·.need) (l.take k) + x.need := by
  rw [take_of_get h, sumF_append]; simp [sumF]
theorem need_sum (l : List Jb) : sumL (Go.Mine.Q.start l) = sumF (·.need) l := by
  unfold sumL Go.Mine.Q.start; rw [sumF_map]
theorem need_bound {l : List Jb} (h : ∀ x ∈ l, rightJ x = true) (k : Nat) : 0 ≤ sumF (·.need) (l.take k) ∧ sumF (·.need) (l.take k) ≤ k * 1048576 := by
  have hr : ∀ y ∈ l.take k, 0 ≤ y.need ∧ y.need ≤ 1048576 := fun y hy => by
    have := rightJ_iff.1 (h y (List.mem_of_mem_take hy)); omega
  refine ⟨sumF_nonneg fun y hy => (hr y hy).1, ?_⟩
  have h1 : sumF (fun x : Jb => x.need) (l.take k) ≤ _ := sumF_bound (l := l.take k) fun y hy => (hr y hy).2
  have h2 : (l.take k).length ≤ k := by simp; omega
  omega
end Go.Proofs.YtnngemgfochodaaGreat.J
