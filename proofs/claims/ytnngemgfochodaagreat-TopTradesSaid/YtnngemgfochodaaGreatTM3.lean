/-
  budgets: right budgets, in the program and in the reference.
  budgets: the first that is so, whether there is one, increasing keys; at budgets and at trades.
  budgets: purses; the checks of the program.
  budgets: the reference's checks.
  budgets: the reference's Check.
-/
import Derived.Test.YtnngemgfochodaaGreatRows
import Derived.Test.YtnngemgfochodaaGreatTM1
import Derived.Test.YtnngemgfochodaaGreatRel
import Derived.Test.YtnngemgfochodaaGreatBase2
import Derived.Test.YtnngemgfochodaaGreatBlk
import Derived.BigQuiet
import Derived.Test.YtnngemgfochodaaGreatMapIns
import Derived.Shelf.Abstract
namespace Go.Proofs.YtnngemgfochodaaGreat
open Go.RowKit Go.Mine Go.Mine.B
def qC (q : Q) : List Value := [.int .i64 q.1, .int .i64 q.2.1, .int .i64 q.2.2.1, .int .i64 q.2.2.2]
def qV (q : Q) : Value := .agg (qC q).toArray
def buC (x : Bu) : List Value := [.int .i64 x.lang, .int .i64 x.q.1, .int .i64 x.q.2.1, .int .i64 x.q.2.2.1, .int .i64 x.q.2.2.2]
def buV (x : Bu) : Value := .agg (buC x).toArray
def trC (x : Tr) : List Value := [.int .i64 x.no, .int .i64 x.at_, .int .i64 x.known, .int .i64 x.stg, .int .i64 x.fr, .int .i64 x.to, .int .i64 x.ms]
def trV (x : Tr) : Value := .agg (trC x).toArray
theorem within34 (n lo hi : Int) (w : World) : Calls Tryz.prog 14 #[.int .i64 n, .int .i64 lo, .int .i64 hi] w fun e w' => e = .returned (.bool (inR n lo hi)) ∧ w = w' := by
  go_enter Tryz.func14, Tryz.ntmps14
  go_wp2
  all_goals (go_ret; exact ⟨ret_bool (by unfold inR; first | (simp [*]; done) | (simp; omega)), rfl⟩)
theorem within36 (n hi : Int) (w : World) : Calls Tryz.prog 37 #[.int .i64 n, .int .i64 hi] w fun e w' => e = .returned (.bool (inR n 0 hi)) ∧ w = w' := by
  go_enter Tryz.func37, Tryz.ntmps37
  go_wp2
  all_goals (go_ret; exact ⟨ret_bool (by unfold inR; first | (simp [*]; done) | (simp; omega)), rfl⟩)
theorem not61 (n : Int) (w : World) : Calls Tryz.prog 36 #[.int .i64 n] w fun e w' => e = .returned (.bool (!inR n 0 most)) ∧ w = w' := by
  have K := hide (within34 n 0 1073741824 w)
  rw [show (1073741824 : Int) = most from rfl] at K
  generalize inR n 0 most = r at K ⊢
  go_enter Tryz.func36, Tryz.ntmps36
  go_wp2_with fail
  refine K.out.mono ?_
  rintro e w' ⟨rfl, rfl⟩
  go_wp2
  go_ret
  exact ⟨rfl, rfl⟩
set_option maxHeartbeats 1000000 in
theorem index67 (A : Option Addr) (c : Nat) (l : List Int) (w : World) (hS : Sl ic 1 w A c l) :
    Calls Tryz.prog 60 #[.slice A l.length c, .func (.func 36) #[] #[]] w fun e w' => (∃ i : Int, e = .returned (.int .i64 i) ∧ decide (0 ≤ i) = l.any (fun n => !inR n 0 most)) ∧ w = w' := by
  have hlc := hS.le
  have hc := hS.max
  go_enter Tryz.func60, Tryz.ntmps60
  go_wp2
  go_loop [5, 8] (fun _ i => ∃ k : Nat, k ≤ l.length ∧ i = .int .i64 k ∧ l.any (fun n => !inR n 0 most) = (l.drop k).any (fun n => !inR n 0 most)) (fun _ i => l.length - (nI i).toNat)
  case atStart => exact ⟨0, Nat.zero_le _, rfl, rfl⟩
  case round =>
    obtain ⟨k, hk, rfl, hq⟩ := hrel
    by_cases hlt : k < l.length
    · obtain ⟨x, b, off, hx, hdr, rfl, hbw, c1⟩ := Sl.ic_at hS hlt
      rw [hdr, List.any_cons] at hq
      have K := hide (not61 x w)
      generalize inR x 0 most = r at K hq
      clear hdr hx hS
      cases r
      · rw [Bool.not_false, Bool.true_or] at hq
        have H := hide hq
        clear hq
        go_wp2_with fail
        refine (K.out).mono ?_
        rintro e w' ⟨rfl, rfl⟩
        go_wp2
        go_ret
        exact ⟨⟨_, rfl, by rw [H.out]; simp⟩, rfl⟩
      · rw [Bool.not_true, Bool.false_or] at hq
        have H := hide hq
        clear hq
        go_wp2_with fail
        refine (K.out).mono ?_
        rintro e w' ⟨rfl, rfl⟩
        go_wp2
        go_round
        case rel => exact ⟨k + 1, by omega, by go_num, H.out⟩
        case measure => simp [nI]; omega
    · rw [List.drop_of_length_le (by omega)] at hq
      have H := hide hq
      clear hq
      go_wp2
      go_ret
      exact ⟨⟨_, rfl, by rw [H.out]; rfl⟩, rfl⟩
theorem contains60 (A : Option Addr) (c : Nat) (l : List Int) (w : World) (hS : Sl ic 1 w A c l) :
    Calls Tryz.prog 35 #[.slice A l.length c, .func (.func 36) #[] #[]] w fun e w' => e = .returned (.bool (l.any (fun n => !inR n 0 most))) ∧ w = w' := by
  have K := hide (index67 A c l w hS)
  generalize l.any (fun n => !inR n 0 most) = r at K
  clear hS
  go_enter Tryz.func35, Tryz.ntmps35
  go_wp2_with fail
  refine (K.out).mono ?_
  rintro e w' ⟨⟨i, rfl, hi⟩, rfl⟩
  go_wp2
  go_ret
  exact ⟨ret_bool (by first | rfl | exact hi), rfl⟩
/-- a block's four numbers behind its first cell, as a slice -/
theorem Sl.four {w : World} {b ty : Nat} {x : Bu} (h : Blk w b ty (buC x).toArray) : Sl ic 1 w (some ⟨b, 1, none⟩) 4 [x.q.1, x.q.2.1, x.q.2.2.1, x.q.2.2.2] :=
  ⟨by simp, by decide, by simp [ic], fun _ => ⟨b, 1, rfl, h.lt, fun i v hv => by
    have hi : i < 4 := by simpa [ic] using (List.getElem?_eq_some_iff.1 hv).1
    have hc : i = 0 ∨ i = 1 ∨ i = 2 ∨ i = 3 := by omega
    rcases hc with rfl | rfl | rfl | rfl <;> exact h.cell _ (by simpa [ic, buC] using hv)⟩⟩
theorem rightB_is (x : Bu) : rightB x = (inR x.lang 0 31 && !([x.q.1, x.q.2.1, x.q.2.2.1, x.q.2.2.2].any fun n => !inR n 0 most)) := by
  unfold rightB
  simp [Bool.and_assoc]
theorem right33 (x : Bu) (w : World) : Calls Tryz.prog 13 #[buV x] w fun e w' => e = .returned (.bool (rightB x)) ∧ Below w.heap.size w w' := by
  have hb := Blk.new w (buC x).toArray 30
  have K := hide (contains60 _ _ _ _ (Sl.four hb))
  have KW := hide (fun w => within34 x.lang 0 31 w)
  have HR := hide (rightB_is x)
  generalize rightB x = R at HR ⊢
  generalize ([x.q.1, x.q.2.1, x.q.2.2.1, x.q.2.2.2].any fun n => !inR n 0 most) = r at K HR
  generalize inR x.lang 0 31 = s at KW HR
  clear hb
  simp only [buV, buC] at *
  cases s
  all_goals
    go_enter Tryz.func13, Tryz.ntmps13
    go_wp2_with (first | (go_at_call 14; refine (KW.out _).mono ?_; rintro e w' ⟨rfl, rfl⟩) | (go_at_call 35; refine K.out.mono ?_; rintro e w' ⟨rfl, rfl⟩))
    go_ret
    exact ⟨ret_bool (by rw [HR.out]; rfl), kalloc (Below.refl _ _) _⟩
set_option maxHeartbeats 1000000 in
theorem right35 (x : Bu) (w : World) : Calls Tryz.prog 15 #[buV x] w fun e w' => e = .returned (.bool (rightB x)) ∧ Below w.heap.size w w' := by
  have hb := Blk.new w (buC x).toArray 30
  have HR := hide (rightB_is x)
  have KW := hide (fun w => within36 x.lang 31 w)
  have KN := hide (fun n w => within36 n 1073741824 w)
  rw [show (1073741824 : Int) = most from rfl] at KN
  generalize rightB x = R at HR ⊢
  generalize inR x.lang 0 31 = s at KW HR
  have c0 := hb.cell (v := .int .i64 x.lang) 0 rfl
  have c1 := hb.cell (v := .int .i64 x.q.1) 1 rfl
  have c2 := hb.cell (v := .int .i64 x.q.2.1) 2 rfl
  have c3 := hb.cell (v := .int .i64 x.q.2.2.1) 3 rfl
  have c4 := hb.cell (v := .int .i64 x.q.2.2.2) 4 rfl
  have HB := hide (kalloc (Below.refl w.heap.size w) (.cells (buC x).toArray 30))
  clear hb
  simp only [buV, buC] at *
  obtain ⟨n0, q0, q1, q2, q3⟩ := x
  simp only at *
  go_enter Tryz.func15, Tryz.ntmps15
  go_wp2
  go_loop [3] (fun i => ∃ k : Nat, k ≤ 4 ∧ i = .int .i64 k ∧ R = (s && !(([q0, q1, q2, q3].drop k).any fun n => !inR n 0 most))) (fun i => 4 - (nI i).toNat)
  case atStart => exact ⟨0, Nat.zero_le _, rfl, HR.out⟩
  case round =>
    obtain ⟨k, hk, rfl, hq⟩ := hrel
    have hk5 : k = 0 ∨ k = 1 ∨ k = 2 ∨ k = 3 ∨ k = 4 := by omega
    rcases hk5 with rfl | rfl | rfl | rfl | rfl
    · have K := hide (fun w => KN.out q0 w)
      have hq2 : R = (s && !(!inR q0 0 most || ([q1, q2, q3] : List Int).any fun n => !inR n 0 most)) := hq
      generalize inR q0 0 most = r at K hq2
      clear hq
      cases r
      · have H2 := hide (hq2.trans (show (s && !(!false || _)) = false by simp))
        clear hq2
        go_wp2_with fail
        refine (K.out _).mono ?_
        rintro e w' ⟨rfl, rfl⟩
        go_wp2
        go_ret
        exact ⟨ret_bool H2.out.symm, HB.out⟩
      have H2 := hide (hq2.trans (show (s && !(!true || _)) = (s && !(([q1, q2, q3] : List Int).any fun n => !inR n 0 most)) by simp))
      clear hq2
      go_wp2_with fail
      refine (K.out _).mono ?_
      rintro e w' ⟨rfl, rfl⟩
      go_wp2
      go_round
      case rel => exact ⟨1, by omega, rfl, H2.out⟩
      case measure => simp [nI]
    · have K := hide (fun w => KN.out q1 w)
      have hq2 : R = (s && !(!inR q1 0 most || ([q2, q3] : List Int).any fun n => !inR n 0 most)) := hq
      generalize inR q1 0 most = r at K hq2
      clear hq
      cases r
      · have H2 := hide (hq2.trans (show (s && !(!false || _)) = false by simp))
        clear hq2
        go_wp2_with fail
        refine (K.out _).mono ?_
        rintro e w' ⟨rfl, rfl⟩
        go_wp2
        go_ret
        exact ⟨ret_bool H2.out.symm, HB.out⟩
      have H2 := hide (hq2.trans (show (s && !(!true || _)) = (s && !(([q2, q3] : List Int).any fun n => !inR n 0 most)) by simp))
      clear hq2
      go_wp2_with fail
      refine (K.out _).mono ?_
      rintro e w' ⟨rfl, rfl⟩
      go_wp2
      go_round
      case rel => exact ⟨2, by omega, rfl, H2.out⟩
      case measure => simp [nI]
    · have K := hide (fun w => KN.out q2 w)
      have hq2 : R = (s && !(!inR q2 0 most || ([q3] : List Int).any fun n => !inR n 0 most)) := hq
      generalize inR q2 0 most = r at K hq2
      clear hq
      cases r
      · have H2 := hide (hq2.trans (show (s && !(!false || _)) = false by simp))
        clear hq2
        go_wp2_with fail
        refine (K.out _).mono ?_
        rintro e w' ⟨rfl, rfl⟩
        go_wp2
        go_ret
        exact ⟨ret_bool H2.out.symm, HB.out⟩
      have H2 := hide (hq2.trans (show (s && !(!true || _)) = (s && !(([q3] : List Int).any fun n => !inR n 0 most)) by simp))
      clear hq2
      go_wp2_with fail
      refine (K.out _).mono ?_
      rintro e w' ⟨rfl, rfl⟩
      go_wp2
      go_round
      case rel => exact ⟨3, by omega, rfl, H2.out⟩
      case measure => simp [nI]
    · have K := hide (fun w => KN.out q3 w)
      have hq2 : R = (s && !(!inR q3 0 most || ([] : List Int).any fun n => !inR n 0 most)) := hq
      generalize inR q3 0 most = r at K hq2
      clear hq
      cases r
      · have H2 := hide (hq2.trans (show (s && !(!false || _)) = false by simp))
        clear hq2
        go_wp2_with fail
        refine (K.out _).mono ?_
        rintro e w' ⟨rfl, rfl⟩
        go_wp2
        go_ret
        exact ⟨ret_bool H2.out.symm, HB.out⟩
      have H2 := hide (hq2.trans (show (s && !(!true || _)) = (s && !(([] : List Int).any fun n => !inR n 0 most)) by simp))
      clear hq2
      go_wp2_with fail
      refine (K.out _).mono ?_
      rintro e w' ⟨rfl, rfl⟩
      go_wp2
      go_round
      case rel => exact ⟨4, by omega, rfl, H2.out⟩
      case measure => simp [nI]
    · have H2 := hide hq
      clear hq
      go_wp2_with fail
      refine (KW.out _).mono ?_
      rintro e w' ⟨rfl, rfl⟩
      go_wp2
      go_ret
      exact ⟨ret_bool (by rw [H2.out]; simp), HB.out⟩
end Go.Proofs.YtnngemgfochodaaGreat
namespace Go.Proofs.YtnngemgfochodaaGreat
open Go.RowKit Go.Mine Go.Mine.B
def ixGo {α : Type} (p : α → Bool) : List α → Nat → Int
  | [], _ => -1
  | x :: l, k => if p x = true then (k : Int) else ixGo p l (k + 1)
theorem ixGo_any {α : Type} (p : α → Bool) : ∀ (l : List α) (k : Nat), decide (0 ≤ ixGo p l k) = l.any p
  | [], _ => by simp [ixGo]
  | x :: l, k => by
    unfold ixGo
    rw [List.any_cons]
    by_cases h : p x = true
    · rw [if_pos h, h]; simp
    · rw [if_neg h, ixGo_any p l]; simp [h]
/-- the first that is so -/
theorem index62 (p : Bu → Bool) (g : Nat) (cb : Array Value) (eg : ∀ args w, (callFunc g args).run Tryz.prog w = .ok (.enter g args) w) (A : Option Addr) (c : Nat) (l : List Bu) (w : World) (hS : Sl buC 5 w A c l)
    (hg : ∀ x ∈ l, ∀ W, Below w.heap.size w W → Calls Tryz.prog g (#[buV x] ++ cb) W fun e w' => e = .returned (.bool (p x)) ∧ Below W.heap.size W w') :
    Calls Tryz.prog 61 #[.slice A l.length c, .func (.func g) #[] cb] w fun e w' => e = .returned (.int .i64 (ixGo p l 0)) ∧ Below w.heap.size w w' := by
  have hlc := hS.le
  have hc := hS.max
  have HS := hide hS
  have HG := hide hg
  clear hS hg
  obtain ⟨R, hR⟩ : ∃ R, ixGo p l 0 = R := ⟨_, rfl⟩
  rw [hR]
  have HR := hide hR
  clear hR
  go_enter Tryz.func61, Tryz.ntmps61
  go_wp2
  go_loopw [5, 8] (fun _ i wr => ∃ k : Nat, k ≤ l.length ∧ i = .int .i64 k ∧ Hid (R = ixGo p (l.drop k) k) ∧ Hid (Below w.heap.size w wr)) (fun _ i _ => l.length - (nI i).toNat)
  case atStart => exact ⟨0, Nat.zero_le _, rfl, HR.out.symm, Below.refl _ _⟩
  case round =>
    obtain ⟨k, hk, rfl, HQ, HB⟩ := hrel
    by_cases hlt : k < l.length
    · obtain ⟨x, b, off, hx, hdr, rfl, hbw, c1⟩ := (HS.out.bel HB.out).at_ hlt
      have d0 : wr.cell? ⟨b, off + k * 5, none⟩ = some (.int .i64 x.lang) := c1 0 _ rfl
      have d1 : wr.cell? ⟨b, off + k * 5 + 1, none⟩ = some (.int .i64 x.q.1) := c1 1 _ rfl
      have d2 : wr.cell? ⟨b, off + k * 5 + 2, none⟩ = some (.int .i64 x.q.2.1) := c1 2 _ rfl
      have d3 : wr.cell? ⟨b, off + k * 5 + 3, none⟩ = some (.int .i64 x.q.2.2.1) := c1 3 _ rfl
      have d4 : wr.cell? ⟨b, off + k * 5 + 4, none⟩ = some (.int .i64 x.q.2.2.2) := c1 4 _ rfl
      have K := hide (HG.out x (List.mem_of_getElem? hx) wr HB.out)
      have hq := HQ.out
      rw [hdr] at hq
      have HQ2 := hide (hq.trans (show ixGo p (x :: l.drop (k + 1)) k = if p x = true then (k : Int) else ixGo p (l.drop (k + 1)) (k + 1) from rfl))
      have HX := hide hx
      generalize p x = r at K HQ2
      simp only [buV, buC] at K
      clear hdr hx HQ hq c1
      cases r
      · have HQ3 := hide (HQ2.out.trans (if_neg (by simp)))
        clear HQ2
        go_wp2_with (refine K.out.mono ?_; rintro e w2 ⟨rfl, hb⟩)
        go_roundw
        case rel => exact ⟨k + 1, by omega, by go_num, HQ3, kcall HB.out hb⟩
        case measure => simp [nI]; omega
      · have HQ3 := hide (HQ2.out.trans (if_pos rfl))
        clear HQ2
        go_wp2_with (refine K.out.mono ?_; rintro e w2 ⟨rfl, hb⟩)
        go_ret
        exact ⟨ret_int HQ3.out.symm, kcall HB.out hb⟩
    · have hq := HQ.out
      rw [List.drop_of_length_le (by omega)] at hq
      have HQ2 := hide (hq.trans (show ixGo p [] k = -1 from rfl))
      clear HQ hq
      go_wp2
      go_ret
      exact ⟨ret_int HQ2.out.symm, HB.out⟩
theorem contains38 (p : Bu → Bool) (g : Nat) (cb : Array Value) (eg : ∀ args w, (callFunc g args).run Tryz.prog w = .ok (.enter g args) w) (A : Option Addr) (c : Nat) (l : List Bu) (w : World) (hS : Sl buC 5 w A c l)
    (hg : ∀ x ∈ l, ∀ W, Below w.heap.size w W → Calls Tryz.prog g (#[buV x] ++ cb) W fun e w' => e = .returned (.bool (p x)) ∧ Below W.heap.size W w') :
    Calls Tryz.prog 39 #[.slice A l.length c, .func (.func g) #[] cb] w fun e w' => e = .returned (.bool (l.any p)) ∧ Below w.heap.size w w' := by
  have K := hide (index62 p g cb eg A c l w hS hg)
  have HI := hide (ixGo_any p l 0)
  generalize ixGo p l 0 = i at K HI
  clear hS hg
  go_enter Tryz.func39, Tryz.ntmps39
  go_wp2_with fail
  refine (K.out).mono ?_
  rintro e w' ⟨rfl, hb⟩
  have HB := hide hb
  clear hb
  go_wp2
  go_ret
  exact ⟨ret_bool (by first | exact HI.out | (rw [← HI.out]; simp)), HB.out⟩
theorem key41 (x : Bu) (w : World) : Calls Tryz.prog 42 #[buV x] w fun e w' => e = .returned (.int .i64 x.lang) ∧ Below w.heap.size w w' := by
  simp only [buV, buC]
  go_enter Tryz.func42, Tryz.ntmps42
  go_wp2
  go_ret
  exact ⟨rfl, kalloc (Below.refl _ _) _⟩
set_option maxHeartbeats 2000000 in
theorem increasing40 (A : Option Addr) (c : Nat) (l : List Bu) (w : World) (hS : Sl buC 5 w A c l) :
    Calls Tryz.prog 41 #[.slice A l.length c, .func (.func 42) #[] #[]] w fun e w' => e = .returned (.bool (incB l)) ∧ Below w.heap.size w w' := by
  have hlc := hS.le
  have hc := hS.max
  have HS := hide hS
  clear hS
  have KK := hide (fun x w => key41 x w)
  obtain ⟨R, hR⟩ : ∃ R, incB l = R := ⟨_, rfl⟩
  rw [hR]
  have HR := hide hR
  clear hR
  go_enter Tryz.func41, Tryz.ntmps41
  go_wp2
  go_loopw [5, 8] (fun _ i wr => ∃ k : Nat, k ≤ l.length ∧ i = .int .i64 k ∧ Hid (R = incB (l.drop (k - 1))) ∧ Hid (Below w.heap.size w wr)) (fun _ i _ => l.length - (nI i).toNat)
  case atStart => exact ⟨0, Nat.zero_le _, rfl, by rw [Nat.zero_sub, List.drop_zero]; exact HR.out.symm, Below.refl _ _⟩
  case round =>
    obtain ⟨k, hk, rfl, HQ, HB⟩ := hrel
    by_cases hlt : k < l.length
    · rcases k with _ | q
      · go_wp2_with fail
        refine wp_quiet_below (by kernel_rfl) (by kernel_rfl) ?_
        repeat (go_big_quiet_step ((go_at_call 42; exact quiet_below (KK.out _ _))))
        refine wpQuiet_nil ?_
        rintro _ ⟨z, rfl⟩
        have HZ := hide z.below
        go_wp2
        go_roundw
        case rel => exact ⟨1, by omega, rfl, HQ, HB.out.trans (HZ.out.mono HB.out.size)⟩
        case measure => simp [nI]; omega
      · obtain ⟨x, b, off, hx, hdr, hA, hbw, c1⟩ := (HS.out.bel HB.out).at_ (show q < l.length by omega)
        obtain ⟨y, b', off', hy, hdr', hA', hbw', c2⟩ := (HS.out.bel HB.out).at_ hlt
        rw [hA] at hA'
        cases hA'
        subst hA
        have hq := HQ.out
        rw [Nat.add_sub_cancel, hdr, hdr'] at hq
        have HQ2 := hide (hq.trans (show incB (x :: y :: l.drop (q + 1 + 1)) = (decide (x.lang < y.lang) && incB (y :: l.drop (q + 1 + 1))) from rfl))
        rw [← hdr'] at HQ2
        have d0 : wr.cell? ⟨b, off + q * 5, none⟩ = some (.int .i64 x.lang) := c1 0 _ rfl
        have d1 : wr.cell? ⟨b, off + q * 5 + 1, none⟩ = some (.int .i64 x.q.1) := c1 1 _ rfl
        have d2 : wr.cell? ⟨b, off + q * 5 + 2, none⟩ = some (.int .i64 x.q.2.1) := c1 2 _ rfl
        have d3 : wr.cell? ⟨b, off + q * 5 + 3, none⟩ = some (.int .i64 x.q.2.2.1) := c1 3 _ rfl
        have d4 : wr.cell? ⟨b, off + q * 5 + 4, none⟩ = some (.int .i64 x.q.2.2.2) := c1 4 _ rfl
        have f0 : wr.cell? ⟨b, off + (q + 1) * 5, none⟩ = some (.int .i64 y.lang) := c2 0 _ rfl
        have f1 : wr.cell? ⟨b, off + (q + 1) * 5 + 1, none⟩ = some (.int .i64 y.q.1) := c2 1 _ rfl
        have f2 : wr.cell? ⟨b, off + (q + 1) * 5 + 2, none⟩ = some (.int .i64 y.q.2.1) := c2 2 _ rfl
        have f3 : wr.cell? ⟨b, off + (q + 1) * 5 + 3, none⟩ = some (.int .i64 y.q.2.2.1) := c2 3 _ rfl
        have f4 : wr.cell? ⟨b, off + (q + 1) * 5 + 4, none⟩ = some (.int .i64 y.q.2.2.2) := c2 4 _ rfl
        replace d0 := BW.get (by exact hbw) d0
        replace d1 := BW.get (by exact hbw) d1
        replace d2 := BW.get (by exact hbw) d2
        replace d3 := BW.get (by exact hbw) d3
        replace d4 := BW.get (by exact hbw) d4
        replace f0 := BW.get (by exact hbw) f0
        replace f1 := BW.get (by exact hbw) f1
        replace f2 := BW.get (by exact hbw) f2
        replace f3 := BW.get (by exact hbw) f3
        replace f4 := BW.get (by exact hbw) f4
        have KX := hide (fun w => KK.out x w)
        have KY := hide (fun w => KK.out y w)
        simp only [buV, buC] at KX KY
        have hqz : IntKind.i64.wrap (q : Int) = (q : Int) := by rw [IntKind.wrap_i64]; omega
        have hq1 : ((q + 1 : Nat) : Int) = (q : Int) + 1 := by omega
        clear hdr hdr' hx hy HQ hq c1 c2
        rcases Bool.eq_false_or_eq_true (decide (x.lang < y.lang)) with hd | hd
        · have HQ3 := hide (HQ2.out.trans (by rw [hd, Bool.true_and]))
          have hd1 := of_decide_eq_true hd
          have gd : decide (y.lang ≤ x.lang) = false := by simp; omega
          clear HQ2 hd
          go_wp2_with fail
          refine wp_quiet_below (by kernel_rfl) (by kernel_rfl) ?_
          repeat (go_big_quiet_step ((go_at_call 42; first | (with_reducible exact quiet_below (KX.out _)) | (with_reducible exact quiet_below (KY.out _)))))
          refine wpQuiet_nil ?_
          rintro _ ⟨z, rfl⟩
          have HZ := hide z.below
          go_wp2
          go_roundw
          case rel => exact ⟨q + 1 + 1, by omega, by go_num, HQ3, HB.out.trans (HZ.out.mono HB.out.size)⟩
          case measure => simp [nI]; omega
        · have HQ3 := hide (HQ2.out.trans (by rw [hd, Bool.false_and]))
          have hd1 := of_decide_eq_false hd
          have gd : decide (y.lang ≤ x.lang) = true := by simp; omega
          clear HQ2 hd
          go_wp2_with fail
          refine wp_quiet_below (by kernel_rfl) (by kernel_rfl) ?_
          repeat (go_big_quiet_step ((go_at_call 42; first | (with_reducible exact quiet_below (KX.out _)) | (with_reducible exact quiet_below (KY.out _)))))
          refine wpQuiet_nil ?_
          rintro _ ⟨z, rfl⟩
          have HZ := hide z.below
          go_wp2
          go_ret
          exact ⟨ret_bool HQ3.out.symm, HB.out.trans (HZ.out.mono HB.out.size)⟩
    · have hq := HQ.out
      have HQ2 := hide (hq.trans (show incB (l.drop (k - 1)) = true by
        have : (l.drop (k - 1)).length ≤ 1 := by simp; omega
        rcases hl : l.drop (k - 1) with _ | ⟨u, _ | ⟨v, m⟩⟩
        · rfl
        · rfl
        · rw [hl] at this; simp at this))
      clear HQ hq
      go_wp2
      go_ret
      exact ⟨ret_bool HQ2.out.symm, HB.out⟩
/-- the first that is so -/
theorem index63 (p : Tr → Bool) (g : Nat) (cb : Array Value) (eg : ∀ args w, (callFunc g args).run Tryz.prog w = .ok (.enter g args) w) (A : Option Addr) (c : Nat) (l : List Tr) (w : World) (hS : Sl trC 7 w A c l)
    (hg : ∀ x ∈ l, ∀ W, Below w.heap.size w W → Calls Tryz.prog g (#[trV x] ++ cb) W fun e w' => e = .returned (.bool (p x)) ∧ Below W.heap.size W w') :
    Calls Tryz.prog 48 #[.slice A l.length c, .func (.func g) #[] cb] w fun e w' => e = .returned (.int .i64 (ixGo p l 0)) ∧ Below w.heap.size w w' := by
  have hlc := hS.le
  have hc := hS.max
  have HS := hide hS
  have HG := hide hg
  clear hS hg
  obtain ⟨R, hR⟩ : ∃ R, ixGo p l 0 = R := ⟨_, rfl⟩
  rw [hR]
  have HR := hide hR
  clear hR
  go_enter Tryz.func48, Tryz.ntmps48
  go_wp2
  go_loopw [5, 8] (fun _ i wr => ∃ k : Nat, k ≤ l.length ∧ i = .int .i64 k ∧ Hid (R = ixGo p (l.drop k) k) ∧ Hid (Below w.heap.size w wr)) (fun _ i _ => l.length - (nI i).toNat)
  case atStart => exact ⟨0, Nat.zero_le _, rfl, HR.out.symm, Below.refl _ _⟩
  case round =>
    obtain ⟨k, hk, rfl, HQ, HB⟩ := hrel
    by_cases hlt : k < l.length
    · obtain ⟨x, b, off, hx, hdr, rfl, hbw, c1⟩ := (HS.out.bel HB.out).at_ hlt
      have d0 : wr.cell? ⟨b, off + k * 7, none⟩ = some (.int .i64 x.no) := c1 0 _ rfl
      have d1 : wr.cell? ⟨b, off + k * 7 + 1, none⟩ = some (.int .i64 x.at_) := c1 1 _ rfl
      have d2 : wr.cell? ⟨b, off + k * 7 + 2, none⟩ = some (.int .i64 x.known) := c1 2 _ rfl
      have d3 : wr.cell? ⟨b, off + k * 7 + 3, none⟩ = some (.int .i64 x.stg) := c1 3 _ rfl
      have d4 : wr.cell? ⟨b, off + k * 7 + 4, none⟩ = some (.int .i64 x.fr) := c1 4 _ rfl
      have d5 : wr.cell? ⟨b, off + k * 7 + 5, none⟩ = some (.int .i64 x.to) := c1 5 _ rfl
      have d6 : wr.cell? ⟨b, off + k * 7 + 6, none⟩ = some (.int .i64 x.ms) := c1 6 _ rfl
      have K := hide (HG.out x (List.mem_of_getElem? hx) wr HB.out)
      have hq := HQ.out
      rw [hdr] at hq
      have HQ2 := hide (hq.trans (show ixGo p (x :: l.drop (k + 1)) k = if p x = true then (k : Int) else ixGo p (l.drop (k + 1)) (k + 1) from rfl))
      have HX := hide hx
      generalize p x = r at K HQ2
      simp only [trV, trC] at K
      clear hdr hx HQ hq c1
      cases r
      · have HQ3 := hide (HQ2.out.trans (if_neg (by simp)))
        clear HQ2
        go_wp2_with (refine K.out.mono ?_; rintro e w2 ⟨rfl, hb⟩)
        go_roundw
        case rel => exact ⟨k + 1, by omega, by go_num, HQ3, kcall HB.out hb⟩
        case measure => simp [nI]; omega
      · have HQ3 := hide (HQ2.out.trans (if_pos rfl))
        clear HQ2
        go_wp2_with (refine K.out.mono ?_; rintro e w2 ⟨rfl, hb⟩)
        go_ret
        exact ⟨ret_int HQ3.out.symm, kcall HB.out hb⟩
    · have hq := HQ.out
      rw [List.drop_of_length_le (by omega)] at hq
      have HQ2 := hide (hq.trans (show ixGo p [] k = -1 from rfl))
      clear HQ hq
      go_wp2
      go_ret
      exact ⟨ret_int HQ2.out.symm, HB.out⟩
theorem contains42 (p : Tr → Bool) (g : Nat) (cb : Array Value) (eg : ∀ args w, (callFunc g args).run Tryz.prog w = .ok (.enter g args) w) (A : Option Addr) (c : Nat) (l : List Tr) (w : World) (hS : Sl trC 7 w A c l)
    (hg : ∀ x ∈ l, ∀ W, Below w.heap.size w W → Calls Tryz.prog g (#[trV x] ++ cb) W fun e w' => e = .returned (.bool (p x)) ∧ Below W.heap.size W w') :
    Calls Tryz.prog 43 #[.slice A l.length c, .func (.func g) #[] cb] w fun e w' => e = .returned (.bool (l.any p)) ∧ Below w.heap.size w w' := by
  have K := hide (index63 p g cb eg A c l w hS hg)
  have HI := hide (ixGo_any p l 0)
  generalize ixGo p l 0 = i at K HI
  clear hS hg
  go_enter Tryz.func43, Tryz.ntmps43
  go_wp2_with fail
  refine (K.out).mono ?_
  rintro e w' ⟨rfl, hb⟩
  have HB := hide hb
  clear hb
  go_wp2
  go_ret
  exact ⟨ret_bool (by first | exact HI.out | (rw [← HI.out]; simp)), HB.out⟩
theorem key46 (x : Tr) (w : World) : Calls Tryz.prog 47 #[trV x] w fun e w' => e = .returned (.int .i64 x.no) ∧ Below w.heap.size w w' := by
  simp only [trV, trC]
  go_enter Tryz.func47, Tryz.ntmps47
  go_wp2
  go_ret
  exact ⟨rfl, kalloc (Below.refl _ _) _⟩
set_option maxHeartbeats 2000000 in
theorem increasing45 (A : Option Addr) (c : Nat) (l : List Tr) (w : World) (hS : Sl trC 7 w A c l) :
    Calls Tryz.prog 46 #[.slice A l.length c, .func (.func 47) #[] #[]] w fun e w' => e = .returned (.bool (incT l)) ∧ Below w.heap.size w w' := by
  have hlc := hS.le
  have hc := hS.max
  have HS := hide hS
  clear hS
  have KK := hide (fun x w => key46 x w)
  obtain ⟨R, hR⟩ : ∃ R, incT l = R := ⟨_, rfl⟩
  rw [hR]
  have HR := hide hR
  clear hR
  go_enter Tryz.func46, Tryz.ntmps46
  go_wp2
  go_loopw [5, 8] (fun _ i wr => ∃ k : Nat, k ≤ l.length ∧ i = .int .i64 k ∧ Hid (R = incT (l.drop (k - 1))) ∧ Hid (Below w.heap.size w wr)) (fun _ i _ => l.length - (nI i).toNat)
  case atStart => exact ⟨0, Nat.zero_le _, rfl, by rw [Nat.zero_sub, List.drop_zero]; exact HR.out.symm, Below.refl _ _⟩
  case round =>
    obtain ⟨k, hk, rfl, HQ, HB⟩ := hrel
    by_cases hlt : k < l.length
    · rcases k with _ | q
      · go_wp2_with fail
        refine wp_quiet_below (by kernel_rfl) (by kernel_rfl) ?_
        repeat (go_big_quiet_step ((go_at_call 47; exact quiet_below (KK.out _ _))))
        refine wpQuiet_nil ?_
        rintro _ ⟨z, rfl⟩
        have HZ := hide z.below
        go_wp2
        go_roundw
        case rel => exact ⟨1, by omega, rfl, HQ, HB.out.trans (HZ.out.mono HB.out.size)⟩
        case measure => simp [nI]; omega
      · obtain ⟨x, b, off, hx, hdr, hA, hbw, c1⟩ := (HS.out.bel HB.out).at_ (show q < l.length by omega)
        obtain ⟨y, b', off', hy, hdr', hA', hbw', c2⟩ := (HS.out.bel HB.out).at_ hlt
        rw [hA] at hA'
        cases hA'
        subst hA
        have hq := HQ.out
        rw [Nat.add_sub_cancel, hdr, hdr'] at hq
        have HQ2 := hide (hq.trans (show incT (x :: y :: l.drop (q + 1 + 1)) = (decide (x.no < y.no) && incT (y :: l.drop (q + 1 + 1))) from rfl))
        rw [← hdr'] at HQ2
        have d0 : wr.cell? ⟨b, off + q * 7, none⟩ = some (.int .i64 x.no) := c1 0 _ rfl
        have d1 : wr.cell? ⟨b, off + q * 7 + 1, none⟩ = some (.int .i64 x.at_) := c1 1 _ rfl
        have d2 : wr.cell? ⟨b, off + q * 7 + 2, none⟩ = some (.int .i64 x.known) := c1 2 _ rfl
        have d3 : wr.cell? ⟨b, off + q * 7 + 3, none⟩ = some (.int .i64 x.stg) := c1 3 _ rfl
        have d4 : wr.cell? ⟨b, off + q * 7 + 4, none⟩ = some (.int .i64 x.fr) := c1 4 _ rfl
        have d5 : wr.cell? ⟨b, off + q * 7 + 5, none⟩ = some (.int .i64 x.to) := c1 5 _ rfl
        have d6 : wr.cell? ⟨b, off + q * 7 + 6, none⟩ = some (.int .i64 x.ms) := c1 6 _ rfl
        have f0 : wr.cell? ⟨b, off + (q + 1) * 7, none⟩ = some (.int .i64 y.no) := c2 0 _ rfl
        have f1 : wr.cell? ⟨b, off + (q + 1) * 7 + 1, none⟩ = some (.int .i64 y.at_) := c2 1 _ rfl
        have f2 : wr.cell? ⟨b, off + (q + 1) * 7 + 2, none⟩ = some (.int .i64 y.known) := c2 2 _ rfl
        have f3 : wr.cell? ⟨b, off + (q + 1) * 7 + 3, none⟩ = some (.int .i64 y.stg) := c2 3 _ rfl
        have f4 : wr.cell? ⟨b, off + (q + 1) * 7 + 4, none⟩ = some (.int .i64 y.fr) := c2 4 _ rfl
        have f5 : wr.cell? ⟨b, off + (q + 1) * 7 + 5, none⟩ = some (.int .i64 y.to) := c2 5 _ rfl
        have f6 : wr.cell? ⟨b, off + (q + 1) * 7 + 6, none⟩ = some (.int .i64 y.ms) := c2 6 _ rfl
        replace d0 := BW.get (by exact hbw) d0
        replace d1 := BW.get (by exact hbw) d1
        replace d2 := BW.get (by exact hbw) d2
        replace d3 := BW.get (by exact hbw) d3
        replace d4 := BW.get (by exact hbw) d4
        replace d5 := BW.get (by exact hbw) d5
        replace d6 := BW.get (by exact hbw) d6
        replace f0 := BW.get (by exact hbw) f0
        replace f1 := BW.get (by exact hbw) f1
        replace f2 := BW.get (by exact hbw) f2
        replace f3 := BW.get (by exact hbw) f3
        replace f4 := BW.get (by exact hbw) f4
        replace f5 := BW.get (by exact hbw) f5
        replace f6 := BW.get (by exact hbw) f6
        have KX := hide (fun w => KK.out x w)
        have KY := hide (fun w => KK.out y w)
        simp only [trV, trC] at KX KY
        have hqz : IntKind.i64.wrap (q : Int) = (q : Int) := by rw [IntKind.wrap_i64]; omega
        have hq1 : ((q + 1 : Nat) : Int) = (q : Int) + 1 := by omega
        clear hdr hdr' hx hy HQ hq c1 c2
        rcases Bool.eq_false_or_eq_true (decide (x.no < y.no)) with hd | hd
        · have HQ3 := hide (HQ2.out.trans (by rw [hd, Bool.true_and]))
          have hd1 := of_decide_eq_true hd
          have gd : decide (y.no ≤ x.no) = false := by simp; omega
          clear HQ2 hd
          go_wp2_with fail
          refine wp_quiet_below (by kernel_rfl) (by kernel_rfl) ?_
          repeat (go_big_quiet_step ((go_at_call 47; first | (with_reducible exact quiet_below (KX.out _)) | (with_reducible exact quiet_below (KY.out _)))))
          refine wpQuiet_nil ?_
          rintro _ ⟨z, rfl⟩
          have HZ := hide z.below
          go_wp2
          go_roundw
          case rel => exact ⟨q + 1 + 1, by omega, by go_num, HQ3, HB.out.trans (HZ.out.mono HB.out.size)⟩
          case measure => simp [nI]; omega
        · have HQ3 := hide (HQ2.out.trans (by rw [hd, Bool.false_and]))
          have hd1 := of_decide_eq_false hd
          have gd : decide (y.no ≤ x.no) = true := by simp; omega
          clear HQ2 hd
          go_wp2_with fail
          refine wp_quiet_below (by kernel_rfl) (by kernel_rfl) ?_
          repeat (go_big_quiet_step ((go_at_call 47; first | (with_reducible exact quiet_below (KX.out _)) | (with_reducible exact quiet_below (KY.out _)))))
          refine wpQuiet_nil ?_
          rintro _ ⟨z, rfl⟩
          have HZ := hide z.below
          go_wp2
          go_ret
          exact ⟨ret_bool HQ3.out.symm, HB.out.trans (HZ.out.mono HB.out.size)⟩
    · have hq := HQ.out
      have HQ2 := hide (hq.trans (show incT (l.drop (k - 1)) = true by
        have : (l.drop (k - 1)).length ≤ 1 := by simp; omega
        rcases hl : l.drop (k - 1) with _ | ⟨u, _ | ⟨v, m⟩⟩
        · rfl
        · rfl
        · rw [hl] at this; simp at this))
      clear HQ hq
      go_wp2
      go_ret
      exact ⟨ret_bool HQ2.out.symm, HB.out⟩
end Go.Proofs.YtnngemgfochodaaGreat
namespace Go.Proofs.YtnngemgfochodaaGreat
open Go.RowKit Go.Mine Go.Mine.B
/-- a purse as a map -/
def puM (p : Pu) : Int → Option Value := fun n => (p n).map qV
theorem puM_upd (p : Pu) (n : Int) (q : Q) : Go.Mine.upd (puM p) n (qV q) = puM (B.upd p n q) := by
  funext j
  unfold Go.Mine.upd puM B.upd
  by_cases h : j = n
  · simp [h]
  · simp [h]
theorem puM_none : puM (fun _ => none) = fun _ => none := rfl
theorem puM_get (p : Pu) (n : Int) : (puM p n).getD (qV q0) = qV ((p n).getD q0) := by unfold puM; rcases p n with _ | q <;> rfl
theorem puM_some (p : Pu) (n : Int) : (puM p n).isSome = (p n).isSome := by unfold puM; rcases p n with _ | q <;> rfl
/-- a change of a map that is new keeps what is older -/
theorem below_grown {w0 w w' : World} {b : Nat} (h : Below w0.heap.size w0 w) (g : w.grownBy w' (some b)) (hb : w0.heap.size ≤ b) : Below w0.heap.size w0 w' :=
  Below.grown h g h.size (fun k hk => by cases hk; exact hb)
theorem Sl.bu_at {w : World} {A : Option Addr} {c : Nat} {l : List Bu} (h : Sl buC 5 w A c l) {k : Nat} (hk : k < l.length) : ∃ (x : Bu) (b off : Nat), l[k]? = some x ∧ l.drop k = x :: l.drop (k + 1) ∧ A = some ⟨b, off, none⟩ ∧ b < w.heap.size ∧
    w.cell? ⟨b, off + k * 5, none⟩ = some (.int .i64 x.lang) ∧ w.cell? ⟨b, off + k * 5 + 1, none⟩ = some (.int .i64 x.q.1) ∧ w.cell? ⟨b, off + k * 5 + 2, none⟩ = some (.int .i64 x.q.2.1) ∧ w.cell? ⟨b, off + k * 5 + 3, none⟩ = some (.int .i64 x.q.2.2.1) ∧ w.cell? ⟨b, off + k * 5 + 4, none⟩ = some (.int .i64 x.q.2.2.2) := by
  obtain ⟨x, b, off, hx, hd, e, hb, hc⟩ := h.at_ hk
  exact ⟨x, b, off, hx, hd, e, hb, by simpa using hc 0 _ rfl, hc 1 _ rfl, hc 2 _ rfl, hc 3 _ rfl, hc 4 _ rfl⟩
theorem Sl.tr_at {w : World} {A : Option Addr} {c : Nat} {l : List Tr} (h : Sl trC 7 w A c l) {k : Nat} (hk : k < l.length) : ∃ (x : Tr) (b off : Nat), l[k]? = some x ∧ l.drop k = x :: l.drop (k + 1) ∧ A = some ⟨b, off, none⟩ ∧ b < w.heap.size ∧
    w.cell? ⟨b, off + k * 7, none⟩ = some (.int .i64 x.no) ∧ w.cell? ⟨b, off + k * 7 + 1, none⟩ = some (.int .i64 x.at_) ∧ w.cell? ⟨b, off + k * 7 + 2, none⟩ = some (.int .i64 x.known) ∧ w.cell? ⟨b, off + k * 7 + 3, none⟩ = some (.int .i64 x.stg) ∧ w.cell? ⟨b, off + k * 7 + 4, none⟩ = some (.int .i64 x.fr) ∧ w.cell? ⟨b, off + k * 7 + 5, none⟩ = some (.int .i64 x.to) ∧ w.cell? ⟨b, off + k * 7 + 6, none⟩ = some (.int .i64 x.ms) := by
  obtain ⟨x, b, off, hx, hd, e, hb, hc⟩ := h.at_ hk
  exact ⟨x, b, off, hx, hd, e, hb, by simpa using hc 0 _ rfl, hc 1 _ rfl, hc 2 _ rfl, hc 3 _ rfl, hc 4 _ rfl, hc 5 _ rfl, hc 6 _ rfl⟩
set_option maxHeartbeats 1000000 in
theorem of37 (A : Option Addr) (c : Nat) (l : List Bu) (w : World) (hS : Sl buC 5 w A c l) (hI : ∀ y ∈ l, I64 y.lang) (_hn : l.length ≤ 1000000) :
    Calls Tryz.prog 25 #[.slice A l.length c] w fun e w' => e = .returned (.map (some w.heap.size)) ∧ MapI Tryz.prog 3 w' w.heap.size l.length (puM (ofB l)) ∧ Below w.heap.size w w' := by
  have hlc := hS.le
  have hc := hS.max
  have M0 := hide (MapI.made w Tryz.prog 3)
  have HS := hide hS
  clear hS
  have hmm := @run_makeMap Tryz.prog
  go_enter Tryz.func25, Tryz.ntmps25
  go_wp2
  clear hmm
  go_loopw [9] (fun i wr => ∃ (k : Nat) (p : Pu), k ≤ l.length ∧ i = .int .i64 k ∧ Hid (ofB l = (l.drop k).foldl (fun p x => B.upd p x.lang x.q) p) ∧ Hid (MapI Tryz.prog 3 wr w.heap.size k (puM p)) ∧ Hid (Below w.heap.size w wr)) (fun i _ => l.length - (nI i).toNat)
  case atStart => exact ⟨0, fun _ => none, Nat.zero_le _, rfl, rfl, M0, kalloc (Below.refl _ _) _⟩
  case round =>
    obtain ⟨k, p, hk, rfl, HQ, HM, HB⟩ := hrel
    by_cases hlt : k < l.length
    · obtain ⟨x, bb, off, hx, hdr, rfl, hbw, c0, c1, c2, c3, c4⟩ := Sl.bu_at (HS.out.bel HB.out) hlt
      have hq := HQ.out
      rw [hdr] at hq
      have HQ2 := hide (hq.trans (show (x :: l.drop (k + 1)).foldl (fun p x => B.upd p x.lang x.q) p = (l.drop (k + 1)).foldl (fun p x => B.upd p x.lang x.q) (B.upd p x.lang x.q) from rfl))
      have hix := hI x (List.mem_of_getElem? hx)
      have HM2 := hide (HM.out.alloc (.cells (buC x).toArray 30))
      have HB2 := hide (kalloc HB.out (.cells (buC x).toArray 30))
      simp only [buC] at HM2 HB2
      clear hdr hx hq HQ HM HB hI
      go_wp2_with (at_mapUpdate; refine wpList_put rfl (.tmp 13) (.tmp 15) (.tmp 17) 56 rfl Tryz.underlying3 Tryz.underlying56 rfl HM2.out ?_ rfl hix rfl ?_)
      · unfold maxLen; omega
      · intro w1 hM1 hg1
        have HM3 := hide (show MapI Tryz.prog 3 w1 w.heap.size (k + 1) (puM (B.upd p x.lang x.q)) by rw [← puM_upd]; exact hM1)
        have HB3 := hide (below_grown HB2.out hg1 (Nat.le_refl _))
        clear hg1 hM1 HM2 HB2
        go_wp2
        go_roundw
        case rel => exact ⟨k + 1, _, by omega, by go_num, HQ2, HM3, HB3⟩
        case measure => simp [nI]; omega
    · obtain rfl : k = l.length := by omega
      have hq := HQ.out
      rw [List.drop_length] at hq
      have HQ2 := hide (hq.trans (show ([] : List Bu).foldl (fun p x => B.upd p x.lang x.q) p = p from rfl))
      clear hq HQ
      go_wp2
      go_ret
      exact ⟨rfl, by rw [HQ2.out]; exact HM.out, HB.out⟩
/-- a right trade, by a purse -/
def rightTp (p : Pu) (x : Tr) : Bool :=
  inR x.no 0 1048576 && inR x.at_ 0 1099511627775 && inR x.known 0 1099511627775 && inR x.stg 0 3 && (p x.fr).isSome && (p x.to).isSome && !decide (x.fr = x.to) && inR x.ms 1 most
theorem rightTp_is (b : List Bu) (x : Tr) : rightTp (ofB b) x = rightT b x := by
  unfold rightTp rightT
  rw [ofB_some, ofB_some]
set_option maxHeartbeats 4000000 in
set_option maxRecDepth 100000 in
theorem trades44 (b n : Nat) (p : Pu) (x : Tr) (w : World) (hM : MapI Tryz.prog 3 w b n (puM p)) (hf : I64 x.fr) (ht : I64 x.to) :
    Calls Tryz.prog 45 #[.map (some b), trV x] w fun e w' => e = .returned (.bool (rightTp p x)) ∧ Below w.heap.size w w' := by
  have K1 := hide (fun w => within34 x.no 0 1048576 w)
  have K2 := hide (fun w => within34 x.at_ 0 1099511627775 w)
  have K3 := hide (fun w => within34 x.known 0 1099511627775 w)
  have K4 := hide (fun w => within34 x.stg 0 3 w)
  have K5 := hide (fun w => within34 x.ms 1 1073741824 w)
  have HE := hide (show rightTp p x = (inR x.no 0 1048576 && inR x.at_ 0 1099511627775 && inR x.known 0 1099511627775 && inR x.stg 0 3 && (p x.fr).isSome && (p x.to).isSome && !decide (x.fr = x.to) && inR x.ms 1 1073741824) from rfl)
  have hl1 := (hM.alloc (.cells (trC x).toArray 38)).look_ok Tryz.underlying3 Tryz.underlying56 (Tryz.zeroValue28 _) hf
  have hl2 := ((hM.alloc (.cells (trC x).toArray 38)).alloc (.cells (qC ((p x.fr).getD q0)).toArray 28)).look_ok Tryz.underlying3 Tryz.underlying56 (Tryz.zeroValue28 _) ht
  rw [show (Value.agg #[Value.int IntKind.i64 0, Value.int IntKind.i64 0, Value.int IntKind.i64 0, Value.int IntKind.i64 0]) = qV q0 from rfl, puM_get, puM_some] at hl1 hl2
  generalize rightTp p x = R at HE ⊢
  generalize (p x.fr).getD q0 = qf at hl1 hl2
  generalize (p x.to).getD q0 = qt at hl2
  generalize (p x.fr).isSome = sf at *
  generalize (p x.to).isSome = st at *
  generalize inR x.no 0 1048576 = r1 at *
  generalize inR x.at_ 0 1099511627775 = r2 at *
  generalize inR x.known 0 1099511627775 = r3 at *
  generalize inR x.stg 0 3 = r4 at *
  generalize inR x.ms 1 1073741824 = r5 at *
  obtain ⟨x1, x2, x3, x4, x5, x6, x7⟩ := x
  obtain ⟨f1, f2, f3, f4⟩ := qf
  obtain ⟨t1, t2, t3, t4⟩ := qt
  simp only [trV, trC, qV, qC] at *
  clear hM hf ht
  cases r1
  · (go_enter Tryz.func45, Tryz.ntmps45; go_wp2_with (first | (go_at_call 14; with_reducible refine (K1.out _).mono ?_; rintro e w' ⟨rfl, rfl⟩) | (go_at_call 14; with_reducible refine (K2.out _).mono ?_; rintro e w' ⟨rfl, rfl⟩) | (go_at_call 14; with_reducible refine (K3.out _).mono ?_; rintro e w' ⟨rfl, rfl⟩) | (go_at_call 14; with_reducible refine (K4.out _).mono ?_; rintro e w' ⟨rfl, rfl⟩) | (go_at_call 14; with_reducible refine (K5.out _).mono ?_; rintro e w' ⟨rfl, rfl⟩)); go_ret; exact ⟨ret_bool (by first | (rw [HE.out]; done) | (rw [HE.out]; simp)), kalloc (kalloc (kalloc (Below.refl _ _) _) _) _⟩)
  cases r2
  · (go_enter Tryz.func45, Tryz.ntmps45; go_wp2_with (first | (go_at_call 14; with_reducible refine (K1.out _).mono ?_; rintro e w' ⟨rfl, rfl⟩) | (go_at_call 14; with_reducible refine (K2.out _).mono ?_; rintro e w' ⟨rfl, rfl⟩) | (go_at_call 14; with_reducible refine (K3.out _).mono ?_; rintro e w' ⟨rfl, rfl⟩) | (go_at_call 14; with_reducible refine (K4.out _).mono ?_; rintro e w' ⟨rfl, rfl⟩) | (go_at_call 14; with_reducible refine (K5.out _).mono ?_; rintro e w' ⟨rfl, rfl⟩)); go_ret; exact ⟨ret_bool (by first | (rw [HE.out]; done) | (rw [HE.out]; simp)), kalloc (kalloc (kalloc (Below.refl _ _) _) _) _⟩)
  cases r3
  · (go_enter Tryz.func45, Tryz.ntmps45; go_wp2_with (first | (go_at_call 14; with_reducible refine (K1.out _).mono ?_; rintro e w' ⟨rfl, rfl⟩) | (go_at_call 14; with_reducible refine (K2.out _).mono ?_; rintro e w' ⟨rfl, rfl⟩) | (go_at_call 14; with_reducible refine (K3.out _).mono ?_; rintro e w' ⟨rfl, rfl⟩) | (go_at_call 14; with_reducible refine (K4.out _).mono ?_; rintro e w' ⟨rfl, rfl⟩) | (go_at_call 14; with_reducible refine (K5.out _).mono ?_; rintro e w' ⟨rfl, rfl⟩)); go_ret; exact ⟨ret_bool (by first | (rw [HE.out]; done) | (rw [HE.out]; simp)), kalloc (kalloc (kalloc (Below.refl _ _) _) _) _⟩)
  cases r4
  · (go_enter Tryz.func45, Tryz.ntmps45; go_wp2_with (first | (go_at_call 14; with_reducible refine (K1.out _).mono ?_; rintro e w' ⟨rfl, rfl⟩) | (go_at_call 14; with_reducible refine (K2.out _).mono ?_; rintro e w' ⟨rfl, rfl⟩) | (go_at_call 14; with_reducible refine (K3.out _).mono ?_; rintro e w' ⟨rfl, rfl⟩) | (go_at_call 14; with_reducible refine (K4.out _).mono ?_; rintro e w' ⟨rfl, rfl⟩) | (go_at_call 14; with_reducible refine (K5.out _).mono ?_; rintro e w' ⟨rfl, rfl⟩)); go_ret; exact ⟨ret_bool (by first | (rw [HE.out]; done) | (rw [HE.out]; simp)), kalloc (kalloc (kalloc (Below.refl _ _) _) _) _⟩)
  cases sf
  · (go_enter Tryz.func45, Tryz.ntmps45; go_wp2_with (first | (go_at_call 14; with_reducible refine (K1.out _).mono ?_; rintro e w' ⟨rfl, rfl⟩) | (go_at_call 14; with_reducible refine (K2.out _).mono ?_; rintro e w' ⟨rfl, rfl⟩) | (go_at_call 14; with_reducible refine (K3.out _).mono ?_; rintro e w' ⟨rfl, rfl⟩) | (go_at_call 14; with_reducible refine (K4.out _).mono ?_; rintro e w' ⟨rfl, rfl⟩) | (go_at_call 14; with_reducible refine (K5.out _).mono ?_; rintro e w' ⟨rfl, rfl⟩)); go_ret; exact ⟨ret_bool (by first | (rw [HE.out]; done) | (rw [HE.out]; simp)), kalloc (kalloc (kalloc (Below.refl _ _) _) _) _⟩)
  cases st
  · (go_enter Tryz.func45, Tryz.ntmps45; go_wp2_with (first | (go_at_call 14; with_reducible refine (K1.out _).mono ?_; rintro e w' ⟨rfl, rfl⟩) | (go_at_call 14; with_reducible refine (K2.out _).mono ?_; rintro e w' ⟨rfl, rfl⟩) | (go_at_call 14; with_reducible refine (K3.out _).mono ?_; rintro e w' ⟨rfl, rfl⟩) | (go_at_call 14; with_reducible refine (K4.out _).mono ?_; rintro e w' ⟨rfl, rfl⟩) | (go_at_call 14; with_reducible refine (K5.out _).mono ?_; rintro e w' ⟨rfl, rfl⟩)); go_ret; exact ⟨ret_bool (by first | (rw [HE.out]; done) | (rw [HE.out]; simp)), kalloc (kalloc (kalloc (Below.refl _ _) _) _) _⟩)
  by_cases hne : x5 = x6
  · subst hne
    (go_enter Tryz.func45, Tryz.ntmps45; go_wp2_with (first | (go_at_call 14; with_reducible refine (K1.out _).mono ?_; rintro e w' ⟨rfl, rfl⟩) | (go_at_call 14; with_reducible refine (K2.out _).mono ?_; rintro e w' ⟨rfl, rfl⟩) | (go_at_call 14; with_reducible refine (K3.out _).mono ?_; rintro e w' ⟨rfl, rfl⟩) | (go_at_call 14; with_reducible refine (K4.out _).mono ?_; rintro e w' ⟨rfl, rfl⟩) | (go_at_call 14; with_reducible refine (K5.out _).mono ?_; rintro e w' ⟨rfl, rfl⟩)); go_ret; exact ⟨ret_bool (by first | (rw [HE.out]; done) | (rw [HE.out]; simp)), kalloc (kalloc (kalloc (Below.refl _ _) _) _) _⟩)
  have gne : (x5 != x6) = true := by simp [hne]
  cases r5
  · (go_enter Tryz.func45, Tryz.ntmps45; go_wp2_with (first | (go_at_call 14; with_reducible refine (K1.out _).mono ?_; rintro e w' ⟨rfl, rfl⟩) | (go_at_call 14; with_reducible refine (K2.out _).mono ?_; rintro e w' ⟨rfl, rfl⟩) | (go_at_call 14; with_reducible refine (K3.out _).mono ?_; rintro e w' ⟨rfl, rfl⟩) | (go_at_call 14; with_reducible refine (K4.out _).mono ?_; rintro e w' ⟨rfl, rfl⟩) | (go_at_call 14; with_reducible refine (K5.out _).mono ?_; rintro e w' ⟨rfl, rfl⟩)); go_ret; exact ⟨ret_bool (by first | (rw [HE.out]; done) | (rw [HE.out]; simp)), kalloc (kalloc (kalloc (Below.refl _ _) _) _) _⟩)
  · have HE : Hid (R = true) := hide (by rw [HE.out]; simp [hne])
    clear hne
    (go_enter Tryz.func45, Tryz.ntmps45; go_wp2_with (first | (go_at_call 14; with_reducible refine (K1.out _).mono ?_; rintro e w' ⟨rfl, rfl⟩) | (go_at_call 14; with_reducible refine (K2.out _).mono ?_; rintro e w' ⟨rfl, rfl⟩) | (go_at_call 14; with_reducible refine (K3.out _).mono ?_; rintro e w' ⟨rfl, rfl⟩) | (go_at_call 14; with_reducible refine (K4.out _).mono ?_; rintro e w' ⟨rfl, rfl⟩) | (go_at_call 14; with_reducible refine (K5.out _).mono ?_; rintro e w' ⟨rfl, rfl⟩)); go_ret; exact ⟨ret_bool (by first | (rw [HE.out]; done) | (rw [HE.out]; simp)), kalloc (kalloc (kalloc (Below.refl _ _) _) _) _⟩)
theorem not43 (b n q : Nat) (p : Pu) (x : Tr) (w : World) (hM : MapI Tryz.prog 3 w b n (puM p)) (hq : Blk w q 56 #[.map (some b)]) (hf : I64 x.fr) (ht : I64 x.to) :
    Calls Tryz.prog 44 #[trV x, .pointer (some ⟨q, 0, none⟩)] w fun e w' => e = .returned (.bool (!rightTp p x)) ∧ Below w.heap.size w w' := by
  have K := hide (trades44 b n p x _ (hM.alloc (.cells (trC x).toArray 38)) hf ht)
  have y0 := hq.cell (v := .map (some b)) 0 rfl
  have z0 := hq.lt
  generalize rightTp p x = r at K ⊢
  simp only [trV, trC] at *
  clear hM hq
  go_enter Tryz.func44, Tryz.ntmps44
  go_wp2_with fail
  refine K.out.mono ?_
  rintro e w' ⟨rfl, hb⟩
  have HB := hide (kcall (kalloc (Below.refl _ _) _) hb)
  clear hb
  go_wp2
  go_ret
  exact ⟨rfl, HB.out⟩
theorem not39 (x : Bu) (w : World) : Calls Tryz.prog 40 #[buV x] w fun e w' => e = .returned (.bool (!rightB x)) ∧ Below w.heap.size w w' := by
  have K := hide (right33 x (w.alloc (.cells (buC x).toArray 30)))
  generalize rightB x = r at K ⊢
  simp only [buV, buC] at *
  go_enter Tryz.func40, Tryz.ntmps40
  go_wp2_with fail
  refine K.out.mono ?_
  rintro e w' ⟨rfl, hb⟩
  have HB := hide (kcall (kalloc (Below.refl _ _) _) hb)
  clear hb
  go_wp2
  go_ret
  exact ⟨rfl, HB.out⟩
theorem any_not {α : Type} (p : α → Bool) (l : List α) : l.any (fun x => !p x) = !l.all p := by rw [List.all_eq_not_any_not, Bool.not_not]
set_option maxHeartbeats 2000000 in
theorem check18 (A : Option Addr) (c : Nat) (b : List Bu) (B : Option Addr) (d : Nat) (l : List Tr) (w : World) (hS : Sl buC 5 w A c b) (hT : Sl trC 7 w B d l) (hI : ∀ y ∈ b, I64 y.lang) (hJ : ∀ x ∈ l, I64 x.fr ∧ I64 x.to) :
    Calls Tryz.prog 18 #[.slice A b.length c, .slice B l.length d] w fun e w' => e = .returned (.int .i64 (chk 400 b l)) ∧ Below w.heap.size w w' := by
  have hlc := hS.le
  have hc := hS.max
  have hld := hT.le
  have hd := hT.max
  have HE := hide (show chk 400 b l = if 32 < b.length ∨ 4096 < l.length then 2 else if chkB b l = true then 0 else 400 from rfl)
  have HE2 := hide (show chkB b l = (!(b.any fun x => !rightB x) && incB b && !(l.any fun x => !rightT b x) && incT l) by rw [any_not, any_not, Bool.not_not, Bool.not_not]; rfl)
  generalize chk 400 b l = R at HE ⊢
  by_cases h1 : 32 < b.length
  · have g1 : decide ((32 : Int) < b.length) = true := by simp; omega
    have HE3 := hide (HE.out.trans (if_pos (.inl h1)))
    clear HE HE2 hS hT
    go_enter Tryz.func18, Tryz.ntmps18
    go_wp2
    go_ret
    exact ⟨ret_int HE3.out.symm, Below.refl _ _⟩
  · have g1 : decide ((32 : Int) < b.length) = false := by simp; omega
    by_cases h2 : 4096 < l.length
    · have g2 : decide ((4096 : Int) < l.length) = true := by simp; omega
      have HE3 := hide (HE.out.trans (if_pos (.inr h2)))
      clear HE HE2 hS hT
      go_enter Tryz.func18, Tryz.ntmps18
      go_wp2
      go_ret
      exact ⟨ret_int HE3.out.symm, Below.refl _ _⟩
    · have g2 : decide ((4096 : Int) < l.length) = false := by simp; omega
      have HE3 := hide (HE.out.trans (if_neg (by omega)))
      have KO := hide (of37 A c b w hS hI (by omega))
      have K38 := hide (fun W (hb : Below w.heap.size w W) => contains38 (fun x => !rightB x) 40 #[] (enters_of Tryz.func40 (by kernel_rfl) rfl) A c b W (hS.bel hb) (fun x _ W _ => not39 x W))
      have K40 := hide (fun W (hb : Below w.heap.size w W) => increasing40 A c b W (hS.bel hb))
      have K42 := hide (fun W q (hb : Below w.heap.size w W) (hM : MapI Tryz.prog 3 W w.heap.size b.length (puM (ofB b))) (hq : Blk W q 56 #[.map (some w.heap.size)]) => contains42 (fun x => !rightTp (ofB b) x) 44 #[.pointer (some ⟨q, 0, none⟩)] (enters_of Tryz.func44 (by kernel_rfl) rfl) B d l W (hT.bel hb) (fun x hx W' hW' => not43 w.heap.size b.length q (ofB b) x W' (hM.bel hW') (hq.bel hW') (hJ x hx).1 (hJ x hx).2))
      have K45 := hide (fun W (hb : Below w.heap.size w W) => increasing45 B d l W (hT.bel hb))
      rw [show (fun x => !rightTp (ofB b) x) = fun x => !rightT b x from funext fun x => by rw [rightTp_is]] at K42
      generalize chkB b l = Z at *
      generalize (b.any fun x => !rightB x) = r1 at *
      generalize incB b = r2 at *
      generalize (l.any fun x => !rightT b x) = r3 at *
      generalize incT l = r4 at *
      clear HE hS hT h1 h2
      go_enter Tryz.func18, Tryz.ntmps18
      go_wp2_with fail
      refine (KO.out).mono ?_
      rintro e w1 ⟨rfl, hM1, hb1⟩
      have HM1 := hide (hM1.alloc (.cells #[.map (some w.heap.size)] 56))
      have QB := Blk.new w1 #[.map (some w.heap.size)] 56
      have HB1 := hide (kalloc hb1 (.cells #[.map (some w.heap.size)] 56))
      clear hM1 hb1 KO
      go_wp2_with fail
      refine (K38.out _ HB1.out).mono ?_
      rintro e w2 ⟨rfl, hb2⟩
      have HM2 := hide (HM1.out.bel hb2)
      replace QB := QB.bel hb2
      have HB2 := hide (kcall HB1.out hb2)
      clear hb2 HM1 HB1 K38
      cases r1
      case true =>
        go_wp2
        go_ret
        exact ⟨ret_int (by rw [HE3.out, HE2.out]; simp), HB2.out⟩
      go_wp2_with fail
      refine (K40.out _ HB2.out).mono ?_
      rintro e w3 ⟨rfl, hb3⟩
      have HM3 := hide (HM2.out.bel hb3)
      replace QB := QB.bel hb3
      have HB3 := hide (kcall HB2.out hb3)
      clear hb3 HM2 HB2 K40
      cases r2
      case false =>
        go_wp2
        go_ret
        exact ⟨ret_int (by rw [HE3.out, HE2.out]; simp), HB3.out⟩
      go_wp2_with fail
      refine (K42.out _ _ HB3.out HM3.out QB).mono ?_
      rintro e w4 ⟨rfl, hb4⟩
      have HB4 := hide (kcall HB3.out hb4)
      clear hb4 HM3 HB3 K42 QB
      cases r3
      case true =>
        go_wp2
        go_ret
        exact ⟨ret_int (by rw [HE3.out, HE2.out]; simp), HB4.out⟩
      go_wp2_with fail
      refine (K45.out _ HB4.out).mono ?_
      rintro e w5 ⟨rfl, hb5⟩
      have HB5 := hide (kcall HB4.out hb5)
      clear hb5 HB4 K45
      cases r4
      all_goals
        go_wp2
        go_ret
        exact ⟨ret_int (by rw [HE3.out, HE2.out]; simp), HB5.out⟩
end Go.Proofs.YtnngemgfochodaaGreat
namespace Go.Proofs.YtnngemgfochodaaGreat
open Go.RowKit Go.Mine Go.Mine.B
theorem index24 (A : Option Addr) (c : Nat) (l : List Bu) (n : Int) (w : World) (hS : Sl buC 5 w A c l) :
    Calls Tryz.prog 38 #[.slice A l.length c, .int .i64 n] w fun e w' => e = .returned (.int .i64 (ixGo (fun y => decide (y.lang = n)) l 0)) ∧ w = w' := by
  have hlc := hS.le
  have hc := hS.max
  obtain ⟨R, hR⟩ : ∃ R, ixGo (fun y : Bu => decide (y.lang = n)) l 0 = R := ⟨_, rfl⟩
  rw [hR]
  have HR := hide hR
  clear hR
  go_enter Tryz.func38, Tryz.ntmps38
  go_wp2
  go_loop [5] (fun i => ∃ k : Nat, k ≤ l.length ∧ i = .int .i64 k ∧ Hid (R = ixGo (fun y : Bu => decide (y.lang = n)) (l.drop k) k)) (fun i => l.length - (nI i).toNat)
  case atStart => exact ⟨0, Nat.zero_le _, rfl, HR.out.symm⟩
  case round =>
    obtain ⟨k, hk, rfl, HQ⟩ := hrel
    by_cases hlt : k < l.length
    · obtain ⟨x, b, off, hx, hdr, rfl, hbw, c0, _⟩ := Sl.bu_at hS hlt
      have hq := HQ.out
      rw [hdr] at hq
      have HQ2 := hide (hq.trans (show ixGo (fun y : Bu => decide (y.lang = n)) (x :: l.drop (k + 1)) k = if decide (x.lang = n) = true then (k : Int) else ixGo (fun y : Bu => decide (y.lang = n)) (l.drop (k + 1)) (k + 1) from rfl))
      clear hdr hx HQ hq hS
      by_cases hn : x.lang = n
      · have HQ3 := hide (HQ2.out.trans (if_pos (by simpa using hn)))
        have gn : (x.lang == n) = true := by simpa using hn
        clear HQ2 hn
        go_wp2
        go_ret
        exact ⟨ret_int HQ3.out.symm, rfl⟩
      · have HQ3 := hide (HQ2.out.trans (if_neg (by simpa using hn)))
        have gn : (x.lang == n) = false := by simpa using hn
        clear HQ2 hn
        go_wp2
        go_round
        case rel => exact ⟨k + 1, by omega, by go_num, HQ3⟩
        case measure => simp [nI]; omega
    · have hq := HQ.out
      rw [List.drop_of_length_le (by omega)] at hq
      have HQ2 := hide (hq.trans (show ixGo (fun y : Bu => decide (y.lang = n)) [] k = -1 from rfl))
      clear hq HQ
      go_wp2
      go_ret
      exact ⟨ret_int HQ2.out.symm, rfl⟩
theorem rightT_order (b : List Bu) (x : Tr) : rightT b x = (inR x.no 0 1048576 && inR x.at_ 0 1099511627775 && inR x.known 0 1099511627775 && inR x.stg 0 3 && (!decide (x.fr = x.to) && (decide (0 ≤ ixGo (fun y : Bu => decide (y.lang = x.fr)) b 0) && (decide (0 ≤ ixGo (fun y : Bu => decide (y.lang = x.to)) b 0) && (decide (1 ≤ x.ms) && decide (x.ms ≤ 1073741824)))))) := by
  rw [ixGo_any, ixGo_any]
  have e1 : inR x.ms 1 1073741824 = (decide (1 ≤ x.ms) && decide (x.ms ≤ 1073741824)) := rfl
  unfold rightT has
  rw [show (most : Int) = 1073741824 from rfl, e1]
  generalize (!decide (x.fr = x.to)) = r
  generalize (b.any fun y => decide (y.lang = x.fr)) = r1
  generalize (b.any fun y => decide (y.lang = x.to)) = r2
  generalize (decide (1 ≤ x.ms) && decide (x.ms ≤ 1073741824)) = r3
  generalize (inR x.no 0 1048576 && inR x.at_ 0 1099511627775 && inR x.known 0 1099511627775 && inR x.stg 0 3) = r4
  cases r <;> cases r1 <;> cases r2 <;> cases r3 <;> cases r4 <;> rfl
set_option maxHeartbeats 4000000 in
set_option maxRecDepth 100000 in
theorem trade47 (A : Option Addr) (c : Nat) (b : List Bu) (x : Tr) (w : World) (hS : Sl buC 5 w A c b) :
    Calls Tryz.prog 16 #[.slice A b.length c, trV x] w fun e w' => e = .returned (.bool (rightT b x)) ∧ Below w.heap.size w w' := by
  have K1 := hide (fun w => within36 x.no 1048576 w)
  have K2 := hide (fun w => within36 x.at_ 1099511627775 w)
  have K3 := hide (fun w => within36 x.known 1099511627775 w)
  have K4 := hide (fun w => within36 x.stg 3 w)
  have HE := hide (rightT_order b x)
  have I1 := hide (index24 A c b x.fr _ (hS.alloc (.cells (trC x).toArray 38)))
  have I2 := hide (index24 A c b x.to _ (hS.alloc (.cells (trC x).toArray 38)))
  generalize rightT b x = R at HE ⊢
  generalize ixGo (fun y : Bu => decide (y.lang = x.fr)) b 0 = i1 at *
  generalize ixGo (fun y : Bu => decide (y.lang = x.to)) b 0 = i2 at *
  generalize inR x.no 0 1048576 = r1 at *
  generalize inR x.at_ 0 1099511627775 = r2 at *
  generalize inR x.known 0 1099511627775 = r3 at *
  generalize inR x.stg 0 3 = r4 at *
  obtain ⟨x1, x2, x3, x4, x5, x6, x7⟩ := x
  simp only [trV, trC] at *
  clear hS
  cases r1
  · (go_enter Tryz.func16, Tryz.ntmps16; go_wp2_with (first | (go_at_call 37; with_reducible refine (K1.out _).mono ?_; rintro e w' ⟨rfl, rfl⟩) | (go_at_call 37; with_reducible refine (K2.out _).mono ?_; rintro e w' ⟨rfl, rfl⟩) | (go_at_call 37; with_reducible refine (K3.out _).mono ?_; rintro e w' ⟨rfl, rfl⟩) | (go_at_call 37; with_reducible refine (K4.out _).mono ?_; rintro e w' ⟨rfl, rfl⟩) | (go_at_call 38; with_reducible refine I1.out.mono ?_; rintro e w' ⟨rfl, rfl⟩) | (go_at_call 38; with_reducible refine I2.out.mono ?_; rintro e w' ⟨rfl, rfl⟩)); go_ret; exact ⟨ret_bool (by first | (rw [HE.out]; done) | (rw [HE.out]; simp)), kalloc (Below.refl _ _) _⟩)
  cases r2
  · (go_enter Tryz.func16, Tryz.ntmps16; go_wp2_with (first | (go_at_call 37; with_reducible refine (K1.out _).mono ?_; rintro e w' ⟨rfl, rfl⟩) | (go_at_call 37; with_reducible refine (K2.out _).mono ?_; rintro e w' ⟨rfl, rfl⟩) | (go_at_call 37; with_reducible refine (K3.out _).mono ?_; rintro e w' ⟨rfl, rfl⟩) | (go_at_call 37; with_reducible refine (K4.out _).mono ?_; rintro e w' ⟨rfl, rfl⟩) | (go_at_call 38; with_reducible refine I1.out.mono ?_; rintro e w' ⟨rfl, rfl⟩) | (go_at_call 38; with_reducible refine I2.out.mono ?_; rintro e w' ⟨rfl, rfl⟩)); go_ret; exact ⟨ret_bool (by first | (rw [HE.out]; done) | (rw [HE.out]; simp)), kalloc (Below.refl _ _) _⟩)
  cases r3
  · (go_enter Tryz.func16, Tryz.ntmps16; go_wp2_with (first | (go_at_call 37; with_reducible refine (K1.out _).mono ?_; rintro e w' ⟨rfl, rfl⟩) | (go_at_call 37; with_reducible refine (K2.out _).mono ?_; rintro e w' ⟨rfl, rfl⟩) | (go_at_call 37; with_reducible refine (K3.out _).mono ?_; rintro e w' ⟨rfl, rfl⟩) | (go_at_call 37; with_reducible refine (K4.out _).mono ?_; rintro e w' ⟨rfl, rfl⟩) | (go_at_call 38; with_reducible refine I1.out.mono ?_; rintro e w' ⟨rfl, rfl⟩) | (go_at_call 38; with_reducible refine I2.out.mono ?_; rintro e w' ⟨rfl, rfl⟩)); go_ret; exact ⟨ret_bool (by first | (rw [HE.out]; done) | (rw [HE.out]; simp)), kalloc (Below.refl _ _) _⟩)
  cases r4
  · (go_enter Tryz.func16, Tryz.ntmps16; go_wp2_with (first | (go_at_call 37; with_reducible refine (K1.out _).mono ?_; rintro e w' ⟨rfl, rfl⟩) | (go_at_call 37; with_reducible refine (K2.out _).mono ?_; rintro e w' ⟨rfl, rfl⟩) | (go_at_call 37; with_reducible refine (K3.out _).mono ?_; rintro e w' ⟨rfl, rfl⟩) | (go_at_call 37; with_reducible refine (K4.out _).mono ?_; rintro e w' ⟨rfl, rfl⟩) | (go_at_call 38; with_reducible refine I1.out.mono ?_; rintro e w' ⟨rfl, rfl⟩) | (go_at_call 38; with_reducible refine I2.out.mono ?_; rintro e w' ⟨rfl, rfl⟩)); go_ret; exact ⟨ret_bool (by first | (rw [HE.out]; done) | (rw [HE.out]; simp)), kalloc (Below.refl _ _) _⟩)
  by_cases hne : x5 = x6
  · subst hne
    (go_enter Tryz.func16, Tryz.ntmps16; go_wp2_with (first | (go_at_call 37; with_reducible refine (K1.out _).mono ?_; rintro e w' ⟨rfl, rfl⟩) | (go_at_call 37; with_reducible refine (K2.out _).mono ?_; rintro e w' ⟨rfl, rfl⟩) | (go_at_call 37; with_reducible refine (K3.out _).mono ?_; rintro e w' ⟨rfl, rfl⟩) | (go_at_call 37; with_reducible refine (K4.out _).mono ?_; rintro e w' ⟨rfl, rfl⟩) | (go_at_call 38; with_reducible refine I1.out.mono ?_; rintro e w' ⟨rfl, rfl⟩) | (go_at_call 38; with_reducible refine I2.out.mono ?_; rintro e w' ⟨rfl, rfl⟩)); go_ret; exact ⟨ret_bool (by first | (rw [HE.out]; done) | (rw [HE.out]; simp)), kalloc (Below.refl _ _) _⟩)
  have gne : (x5 != x6) = true := by simp [hne]
  rcases Bool.eq_false_or_eq_true (decide (0 ≤ i1)) with g1 | g1
  rotate_left
  · have HE : Hid (R = false) := hide (by rw [HE.out, g1]; simp [hne])
    clear hne
    (go_enter Tryz.func16, Tryz.ntmps16; go_wp2_with (first | (go_at_call 37; with_reducible refine (K1.out _).mono ?_; rintro e w' ⟨rfl, rfl⟩) | (go_at_call 37; with_reducible refine (K2.out _).mono ?_; rintro e w' ⟨rfl, rfl⟩) | (go_at_call 37; with_reducible refine (K3.out _).mono ?_; rintro e w' ⟨rfl, rfl⟩) | (go_at_call 37; with_reducible refine (K4.out _).mono ?_; rintro e w' ⟨rfl, rfl⟩) | (go_at_call 38; with_reducible refine I1.out.mono ?_; rintro e w' ⟨rfl, rfl⟩) | (go_at_call 38; with_reducible refine I2.out.mono ?_; rintro e w' ⟨rfl, rfl⟩)); go_ret; exact ⟨ret_bool (by first | (rw [HE.out]; done) | (rw [HE.out]; simp)), kalloc (Below.refl _ _) _⟩)
  rcases Bool.eq_false_or_eq_true (decide (0 ≤ i2)) with g2 | g2
  rotate_left
  · have HE : Hid (R = false) := hide (by rw [HE.out, g1, g2]; simp [hne])
    clear hne
    (go_enter Tryz.func16, Tryz.ntmps16; go_wp2_with (first | (go_at_call 37; with_reducible refine (K1.out _).mono ?_; rintro e w' ⟨rfl, rfl⟩) | (go_at_call 37; with_reducible refine (K2.out _).mono ?_; rintro e w' ⟨rfl, rfl⟩) | (go_at_call 37; with_reducible refine (K3.out _).mono ?_; rintro e w' ⟨rfl, rfl⟩) | (go_at_call 37; with_reducible refine (K4.out _).mono ?_; rintro e w' ⟨rfl, rfl⟩) | (go_at_call 38; with_reducible refine I1.out.mono ?_; rintro e w' ⟨rfl, rfl⟩) | (go_at_call 38; with_reducible refine I2.out.mono ?_; rintro e w' ⟨rfl, rfl⟩)); go_ret; exact ⟨ret_bool (by first | (rw [HE.out]; done) | (rw [HE.out]; simp)), kalloc (Below.refl _ _) _⟩)
  rcases Bool.eq_false_or_eq_true (decide (1 ≤ x7)) with g3 | g3
  rotate_left
  · have HE : Hid (R = false) := hide (by rw [HE.out, g1, g2, g3]; simp [hne])
    clear hne
    (go_enter Tryz.func16, Tryz.ntmps16; go_wp2_with (first | (go_at_call 37; with_reducible refine (K1.out _).mono ?_; rintro e w' ⟨rfl, rfl⟩) | (go_at_call 37; with_reducible refine (K2.out _).mono ?_; rintro e w' ⟨rfl, rfl⟩) | (go_at_call 37; with_reducible refine (K3.out _).mono ?_; rintro e w' ⟨rfl, rfl⟩) | (go_at_call 37; with_reducible refine (K4.out _).mono ?_; rintro e w' ⟨rfl, rfl⟩) | (go_at_call 38; with_reducible refine I1.out.mono ?_; rintro e w' ⟨rfl, rfl⟩) | (go_at_call 38; with_reducible refine I2.out.mono ?_; rintro e w' ⟨rfl, rfl⟩)); go_ret; exact ⟨ret_bool (by first | (rw [HE.out]; done) | (rw [HE.out]; simp)), kalloc (Below.refl _ _) _⟩)
  rcases Bool.eq_false_or_eq_true (decide (x7 ≤ 1073741824)) with g4 | g4
  rotate_left
  · have HE : Hid (R = false) := hide (by rw [HE.out, g1, g2, g3, g4]; simp [hne])
    clear hne
    (go_enter Tryz.func16, Tryz.ntmps16; go_wp2_with (first | (go_at_call 37; with_reducible refine (K1.out _).mono ?_; rintro e w' ⟨rfl, rfl⟩) | (go_at_call 37; with_reducible refine (K2.out _).mono ?_; rintro e w' ⟨rfl, rfl⟩) | (go_at_call 37; with_reducible refine (K3.out _).mono ?_; rintro e w' ⟨rfl, rfl⟩) | (go_at_call 37; with_reducible refine (K4.out _).mono ?_; rintro e w' ⟨rfl, rfl⟩) | (go_at_call 38; with_reducible refine I1.out.mono ?_; rintro e w' ⟨rfl, rfl⟩) | (go_at_call 38; with_reducible refine I2.out.mono ?_; rintro e w' ⟨rfl, rfl⟩)); go_ret; exact ⟨ret_bool (by first | (rw [HE.out]; done) | (rw [HE.out]; simp)), kalloc (Below.refl _ _) _⟩)
  · have HE : Hid (R = true) := hide (by rw [HE.out, g1, g2, g3, g4]; simp [hne])
    clear hne
    (go_enter Tryz.func16, Tryz.ntmps16; go_wp2_with (first | (go_at_call 37; with_reducible refine (K1.out _).mono ?_; rintro e w' ⟨rfl, rfl⟩) | (go_at_call 37; with_reducible refine (K2.out _).mono ?_; rintro e w' ⟨rfl, rfl⟩) | (go_at_call 37; with_reducible refine (K3.out _).mono ?_; rintro e w' ⟨rfl, rfl⟩) | (go_at_call 37; with_reducible refine (K4.out _).mono ?_; rintro e w' ⟨rfl, rfl⟩) | (go_at_call 38; with_reducible refine I1.out.mono ?_; rintro e w' ⟨rfl, rfl⟩) | (go_at_call 38; with_reducible refine I2.out.mono ?_; rintro e w' ⟨rfl, rfl⟩)); go_ret; exact ⟨ret_bool (by first | (rw [HE.out]; done) | (rw [HE.out]; simp)), kalloc (Below.refl _ _) _⟩)
end Go.Proofs.YtnngemgfochodaaGreat
namespace Go.Proofs.YtnngemgfochodaaGreat
open Go.RowKit Go.Mine Go.Mine.B
/-- what is asked of a list from a place on, the place before it known -/
def from_ {α : Type} (p : α → Bool) (inc : List α → Bool) (l : List α) (k : Nat) : Bool := (l.drop k).all p && inc (l.drop (k - 1))
set_option maxHeartbeats 4000000 in
set_option maxRecDepth 100000 in
theorem check19 (A : Option Addr) (c : Nat) (b : List Bu) (B : Option Addr) (d : Nat) (l : List Tr) (w : World) (hS : Sl buC 5 w A c b) (hT : Sl trC 7 w B d l) :
    Calls Tryz.prog 5 #[.slice A b.length c, .slice B l.length d] w fun e w' => e = .returned (.int .i64 (chk 400 b l)) ∧ Below w.heap.size w w' := by
  have hlc := hS.le
  have hc := hS.max
  have hld := hT.le
  have hd := hT.max
  have HE := hide (show chk 400 b l = if 32 < b.length ∨ 4096 < l.length then 2 else if (chkB b l) = true then 0 else 400 from rfl)
  have HE2 := hide (show chkB b l = (from_ rightB incB b 0 && from_ (rightT b) incT l 0) by unfold chkB from_; rw [Nat.zero_sub, List.drop_zero, List.drop_zero]; simp [Bool.and_assoc])
  generalize chk 400 b l = R at HE ⊢
  by_cases h1 : 32 < b.length
  · have g1 : decide ((32 : Int) < b.length) = true := by simp; omega
    have HE3 := hide (HE.out.trans (if_pos (.inl h1)))
    clear HE HE2 hS hT
    go_enter Tryz.func5, Tryz.ntmps5
    go_wp2
    go_ret
    exact ⟨ret_int HE3.out.symm, Below.refl _ _⟩
  · have g1 : decide ((32 : Int) < b.length) = false := by simp; omega
    by_cases h2 : 4096 < l.length
    · have g2 : decide ((4096 : Int) < l.length) = true := by simp; omega
      have HE3 := hide (HE.out.trans (if_pos (.inr h2)))
      clear HE HE2 hS hT
      go_enter Tryz.func5, Tryz.ntmps5
      go_wp2
      go_ret
      exact ⟨ret_int HE3.out.symm, Below.refl _ _⟩
    · have g2 : decide ((4096 : Int) < l.length) = false := by simp; omega
      have HE3 := hide (HE.out.trans (if_neg (by omega)))
      have KR := hide (fun x w => right35 x w)
      have KT := hide (fun x W (hb : Below w.heap.size w W) => trade47 A c b x W (hS.bel hb))
      have HS := hide hS
      have HT := hide hT
      clear HE hS hT h1 h2
      go_enter Tryz.func5, Tryz.ntmps5
      go_wp2
      go_loopw [5] (fun i wr => ∃ k : Nat, k ≤ b.length ∧ i = .int .i64 k ∧ Hid (chkB b l = (from_ rightB incB b k && from_ (rightT b) incT l 0)) ∧ Hid (Below w.heap.size w wr)) (fun i _ => b.length - (nI i).toNat)
      case atStart => exact ⟨0, Nat.zero_le _, rfl, HE2, Below.refl _ _⟩
      case round =>
        obtain ⟨k, hk, rfl, HQ, HB⟩ := hrel
        by_cases hlt : k < b.length
        · obtain ⟨x, bb, off, hx, hdr, hA, hbw, c0, c1, c2, c3, c4⟩ := Sl.bu_at (HS.out.bel HB.out) hlt
          have KX := hide (fun w => KR.out x w)
          replace c0 := BW.get (by exact hbw) c0
          replace c1 := BW.get (by exact hbw) c1
          replace c2 := BW.get (by exact hbw) c2
          replace c3 := BW.get (by exact hbw) c3
          replace c4 := BW.get (by exact hbw) c4
          have HX := hide (show from_ rightB incB b k = (rightB x && ((b.drop (k + 1)).all rightB && incB (b.drop (k - 1)))) by unfold from_; rw [hdr, List.all_cons, Bool.and_assoc])
          have HD := hide hdr
          simp only [buV, buC] at KX
          generalize rightB x = r at KX HX
          cases r
          · subst hA
            clear hx hdr
            go_wp2_with fail
            (refine wp_quiet_below (by kernel_rfl) (by kernel_rfl) ?_; (repeat (go_big_quiet_step ((go_at_call 15; exact quiet_below (KX.out _))))); refine wpQuiet_nil ?_; rintro _ ⟨z, rfl⟩; have HZ := hide z.below)
            go_wp2
            go_ret
            exact ⟨ret_int (by rw [HE3.out, HQ.out, HX.out]; simp), HB.out.trans (HZ.out.mono HB.out.size)⟩
          · rcases k with _ | q
            · subst hA
              clear hx hdr
              simp only [Nat.zero_mul, Nat.add_zero] at c0 c1 c2 c3 c4
              go_wp2_with fail
              (refine wp_quiet_below (by kernel_rfl) (by kernel_rfl) ?_; (repeat (go_big_quiet_step ((go_at_call 15; exact quiet_below (KX.out _))))); refine wpQuiet_nil ?_; rintro _ ⟨z, rfl⟩; have HZ := hide z.below)
              go_wp2
              go_roundw
              case rel => exact ⟨1, by omega, rfl, hide (by rw [HQ.out, HX.out]; rfl), HB.out.trans (HZ.out.mono HB.out.size)⟩
              case measure => simp [nI]; omega
            · obtain ⟨y, bb', off', hy, hdr', hA', hbw', e0, _⟩ := Sl.bu_at (HS.out.bel HB.out) (show q < b.length by omega)
              rw [hA] at hA'
              cases hA'
              subst hA
              replace e0 := BW.get (by exact hbw) e0
              have hqz : IntKind.i64.wrap (q : Int) = (q : Int) := by rw [IntKind.wrap_i64]; omega
              have hq1 : ((q + 1 : Nat) : Int) = (q : Int) + 1 := by omega
              have HX2 := hide (show incB (b.drop (q + 1 - 1)) = (decide (y.lang < x.lang) && incB (b.drop (q + 1))) by rw [Nat.add_sub_cancel, hdr', hdr]; rfl)
              clear hx hdr hy hdr' HD
              rcases Bool.eq_false_or_eq_true (decide (y.lang < x.lang)) with hd9 | hd9
              · have hd1 := of_decide_eq_true hd9
                have gd : decide (x.lang ≤ y.lang) = false := by simp; omega
                have HX3 := hide (HX2.out.trans (by rw [hd9, Bool.true_and]))
                clear hd9 HX2
                go_wp2_with fail
                (refine wp_quiet_below (by kernel_rfl) (by kernel_rfl) ?_; (repeat (go_big_quiet_step ((go_at_call 15; exact quiet_below (KX.out _))))); refine wpQuiet_nil ?_; rintro _ ⟨z, rfl⟩; have HZ := hide z.below)
                go_wp2
                go_roundw
                case rel => exact ⟨q + 1 + 1, by omega, by go_num, hide (by rw [HQ.out, HX.out, HX3.out]; rfl), HB.out.trans (HZ.out.mono HB.out.size)⟩
                case measure => simp [nI]; omega
              · have hd1 := of_decide_eq_false hd9
                have gd : decide (x.lang ≤ y.lang) = true := by simp; omega
                have HX3 := hide (HX2.out.trans (by rw [hd9, Bool.false_and]))
                clear hd9 HX2
                go_wp2_with fail
                (refine wp_quiet_below (by kernel_rfl) (by kernel_rfl) ?_; (repeat (go_big_quiet_step ((go_at_call 15; exact quiet_below (KX.out _))))); refine wpQuiet_nil ?_; rintro _ ⟨z, rfl⟩; have HZ := hide z.below)
                go_wp2
                go_ret
                exact ⟨ret_int (by rw [HE3.out, HQ.out, HX.out, HX3.out]; simp), HB.out.trans (HZ.out.mono HB.out.size)⟩
        · have HB9 := hide (show from_ rightB incB b k = true by
            unfold from_
            have hz : (b.drop (k - 1)).length ≤ 1 := by simp; omega
            rw [List.drop_of_length_le (show b.length ≤ k by omega)]
            rcases hl : b.drop (k - 1) with _ | ⟨u, _ | ⟨v, m⟩⟩
            · rfl
            · rfl
            · rw [hl] at hz; simp at hz)
          have HQ9 := hide (HQ.out.trans (by rw [HB9.out, Bool.true_and]))
          clear HB9 HQ HE2
          go_wp2
          go_loopw [6] (fun i wr => ∃ k : Nat, k ≤ l.length ∧ i = .int .i64 k ∧ Hid (chkB b l = from_ (rightT b) incT l k) ∧ Hid (Below w.heap.size w wr)) (fun i _ => l.length - (nI i).toNat)
          case atStart => exact ⟨0, Nat.zero_le _, rfl, HQ9, HB⟩
          case round =>
            obtain ⟨k, hk, rfl, HQ, HB⟩ := hrel
            by_cases hlt : k < l.length
            · obtain ⟨x, bb, off, hx, hdr, hA, hbw, c0, c1, c2, c3, c4, c5, c6⟩ := Sl.tr_at (HT.out.bel HB.out) hlt
              have KX := hide (fun (z : BW wr) => KT.out x z.world (HB.out.trans (z.below.mono HB.out.size)))
              replace c0 := BW.get (by exact hbw) c0
              replace c1 := BW.get (by exact hbw) c1
              replace c2 := BW.get (by exact hbw) c2
              replace c3 := BW.get (by exact hbw) c3
              replace c4 := BW.get (by exact hbw) c4
              replace c5 := BW.get (by exact hbw) c5
              replace c6 := BW.get (by exact hbw) c6
              have HX := hide (show from_ (rightT b) incT l k = (rightT b x && ((l.drop (k + 1)).all (rightT b) && incT (l.drop (k - 1)))) by unfold from_; rw [hdr, List.all_cons, Bool.and_assoc])
              simp only [trV, trC] at KX
              generalize rightT b x = r at KX HX
              cases r
              · subst hA
                clear hx hdr
                go_wp2_with fail
                (refine wp_quiet_below (by kernel_rfl) (by kernel_rfl) ?_; (repeat (go_big_quiet_step ((go_at_call 16; exact quiet_below (KX.out _))))); refine wpQuiet_nil ?_; rintro _ ⟨z, rfl⟩; have HZ := hide z.below)
                go_wp2
                go_ret
                exact ⟨ret_int (by rw [HE3.out, HQ.out, HX.out]; simp), HB.out.trans (HZ.out.mono HB.out.size)⟩
              · rcases k with _ | q
                · subst hA
                  clear hx hdr
                  simp only [Nat.zero_mul, Nat.add_zero] at c0 c1 c2 c3 c4 c5 c6
                  go_wp2_with fail
                  (refine wp_quiet_below (by kernel_rfl) (by kernel_rfl) ?_; (repeat (go_big_quiet_step ((go_at_call 16; exact quiet_below (KX.out _))))); refine wpQuiet_nil ?_; rintro _ ⟨z, rfl⟩; have HZ := hide z.below)
                  go_wp2
                  go_roundw
                  case rel => exact ⟨1, by omega, rfl, hide (by rw [HQ.out, HX.out]; rfl), HB.out.trans (HZ.out.mono HB.out.size)⟩
                  case measure => simp [nI]; omega
                · obtain ⟨y, bb', off', hy, hdr', hA', hbw', e0, _⟩ := Sl.tr_at (HT.out.bel HB.out) (show q < l.length by omega)
                  rw [hA] at hA'
                  cases hA'
                  subst hA
                  replace e0 := BW.get (by exact hbw) e0
                  have hqz : IntKind.i64.wrap (q : Int) = (q : Int) := by rw [IntKind.wrap_i64]; omega
                  have hq1 : ((q + 1 : Nat) : Int) = (q : Int) + 1 := by omega
                  have HX2 := hide (show incT (l.drop (q + 1 - 1)) = (decide (y.no < x.no) && incT (l.drop (q + 1))) by rw [Nat.add_sub_cancel, hdr', hdr]; rfl)
                  clear hx hdr hy hdr'
                  rcases Bool.eq_false_or_eq_true (decide (y.no < x.no)) with hd9 | hd9
                  · have hd1 := of_decide_eq_true hd9
                    have gd : decide (x.no ≤ y.no) = false := by simp; omega
                    have HX3 := hide (HX2.out.trans (by rw [hd9, Bool.true_and]))
                    clear hd9 HX2
                    go_wp2_with fail
                    (refine wp_quiet_below (by kernel_rfl) (by kernel_rfl) ?_; (repeat (go_big_quiet_step ((go_at_call 16; exact quiet_below (KX.out _))))); refine wpQuiet_nil ?_; rintro _ ⟨z, rfl⟩; have HZ := hide z.below)
                    go_wp2
                    go_roundw
                    case rel => exact ⟨q + 1 + 1, by omega, by go_num, hide (by rw [HQ.out, HX.out, HX3.out]; rfl), HB.out.trans (HZ.out.mono HB.out.size)⟩
                    case measure => simp [nI]; omega
                  · have hd1 := of_decide_eq_false hd9
                    have gd : decide (x.no ≤ y.no) = true := by simp; omega
                    have HX3 := hide (HX2.out.trans (by rw [hd9, Bool.false_and]))
                    clear hd9 HX2
                    go_wp2_with fail
                    (refine wp_quiet_below (by kernel_rfl) (by kernel_rfl) ?_; (repeat (go_big_quiet_step ((go_at_call 16; exact quiet_below (KX.out _))))); refine wpQuiet_nil ?_; rintro _ ⟨z, rfl⟩; have HZ := hide z.below)
                    go_wp2
                    go_ret
                    exact ⟨ret_int (by rw [HE3.out, HQ.out, HX.out, HX3.out]; simp), HB.out.trans (HZ.out.mono HB.out.size)⟩
            · have HB9 := hide (show from_ (rightT b) incT l k = true by
                unfold from_
                have hz : (l.drop (k - 1)).length ≤ 1 := by simp; omega
                rw [List.drop_of_length_le (show l.length ≤ k by omega)]
                rcases hl : l.drop (k - 1) with _ | ⟨u, _ | ⟨v, m⟩⟩
                · rfl
                · rfl
                · rw [hl] at hz; simp at hz)
              go_wp2
              go_ret
              exact ⟨ret_int (by rw [HE3.out, HQ.out, HB9.out]; simp), HB.out⟩
end Go.Proofs.YtnngemgfochodaaGreat
