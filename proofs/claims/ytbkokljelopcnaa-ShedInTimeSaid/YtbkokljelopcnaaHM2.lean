/-
  shed: check, Error, Index, IndexFunc.
  shed: Kept, Fits, both.
  shed: Fits, both.
-/
import Derived.Test.YtbkokljelopcnaaJM7
import Derived.Test.YtbkokljelopcnaaHM1
import Derived.Test.YtbkokljelopcnaaJLess
import Derived.Deep.RegionHeld3
namespace Go.Proofs.Ytbkokljelopcnaa
open Go.RowKit Go.Mine Go.Mine.Q
attribute [local go_sem] Oper.semAt_some
/-- where the first one stands that is looked for -/
def ixQ (q : Jb → Bool) : List Jb → Nat → Int
  | [], _ => -1
  | x :: r, k => if q x = true then (k : Int) else ixQ q r (k + 1)
theorem ixQ_nil (q : Jb → Bool) (k : Nat) : ixQ q [] k = -1 := rfl
theorem ixQ_cons (q : Jb → Bool) (x : Jb) (r : List Jb) (k : Nat) : ixQ q (x :: r) k = if q x = true then (k : Int) else ixQ q r (k + 1) := rfl
theorem ixQ_any (q : Jb → Bool) : ∀ (l : List Jb) (k : Nat), decide (0 ≤ ixQ q l k) = l.any q
  | [], _ => rfl
  | x :: r, k => by
    rw [ixQ_cons, List.any_cons]
    cases h : q x
    · simp only [Bool.false_eq_true, if_false, Bool.false_or]; exact ixQ_any q r (k + 1)
    · simp only [if_true, Bool.true_or]; exact decide_eq_true (by omega)
theorem ixQ_no (n : Int) : ∀ (l : List Jb) (k : Nat), ixQ (fun x => x.no == n) l k = ixJ l n k
  | [], _ => rfl
  | x :: r, k => by
    rw [ixQ_cons, ixJ_cons, ixQ_no n r (k + 1)]
    simp
set_option maxHeartbeats 2000000 in
theorem wait73 (x : Jb) (w : World) : Calls Try.prog 73 #[jbV x] w fun e w' => e = .returned (.bool (x.ready != 0)) ∧ Below w.heap.size w w' := by
  have HB := hide (kalloc (Below.refl w.heap.size w) (.cells (jbC x).toArray 39))
  simp only [jbV, jbC] at *
  go_enter Try.func73, Try.ntmps73
  go_wp2
  go_ret
  exact ⟨rfl, HB.out⟩
set_option maxHeartbeats 2000000 in
theorem same60 (x : Jb) (n : Int) (p : Nat) (w : World) (hp : Blk w p 3 #[.int .i64 n]) : Calls Try.prog 60 #[jbV x, .pointer (some ⟨p, 0, none⟩)] w fun e w' => e = .returned (.bool (x.no == n)) ∧ Below w.heap.size w w' := by
  have HB := hide (kalloc (Below.refl w.heap.size w) (.cells (jbC x).toArray 39))
  have p0 := hp.cell (v := .int .i64 n) 0 rfl
  have pl := hp.lt
  simp only [jbV, jbC] at *
  clear hp
  go_enter Try.func60, Try.ntmps60
  go_wp2
  go_ret
  exact ⟨rfl, HB.out⟩
set_option maxHeartbeats 4000000 in
theorem index59w (A : Option Addr) (c : Nat) (l : List Jb) (w : World) (hS : Sl jbC 5 w A c l) :
    Calls Try.prog 59 #[.slice A l.length c, .func (.func 73) #[] #[]] w fun e w' => e = .returned (.int .i64 (ixQ (fun x => x.ready != 0) l 0)) ∧ Below w.heap.size w w' := by
  have hlc := hS.le
  have hc := hS.max
  have HS := hide hS
  have K := hide (fun (x : Jb) W (h : Below w.heap.size w W) => wait73 x W)
  obtain ⟨q, hq⟩ : ∃ q : Jb → Bool, (fun x => x.ready != 0) = q := ⟨_, rfl⟩
  have K2 : Hid (∀ (x : Jb) W, Below w.heap.size w W → Calls Try.prog 73 #[jbV x] W fun e w' => e = .returned (.bool (q x)) ∧ Below W.heap.size W w') := hide (fun x W h => by rw [← hq]; exact K.out x W h)
  rw [hq]
  clear hS hq K
  simp only [jbV, jbC] at K2
  go_enter Try.func59, Try.ntmps59
  go_wp2
  go_loopw [8] (fun v8 wr => ∃ (k : Nat), k ≤ l.length ∧ v8 = .int .i64 k ∧ Hid (ixQ q l 0 = ixQ q (l.drop k) k) ∧ Hid (Below w.heap.size w wr)) (fun i _ => l.length - (nI i).toNat)
  case atStart => exact ⟨0, Nat.zero_le _, rfl, rfl, Below.refl _ _⟩
  case round =>
    obtain ⟨k, hk, rfl, HQ, HB⟩ := hrel
    by_cases hlt : k < l.length
    · obtain ⟨x, b, off, hx, hdr, rfl, hbw, d0, d1, d2, d3, d4⟩ := Sl.jb_at (HS.out.bel HB.out) hlt
      have hq := HQ.out
      rw [hdr, ixQ_cons] at hq
      have kz : (k : Int) < (l.length : Int) := by omega
      have K3 := hide (K2.out x wr HB.out)
      clear hdr hx HQ
      go_wp2_with fail
      refine K3.out.mono ?_
      rintro e w1 ⟨rfl, hb⟩
      have HB1 := hide (kcall HB.out hb)
      clear hb K3 d0 d1 d2 d3 d4
      cases hqx : q x
      · rw [hqx] at hq
        simp only [Bool.false_eq_true, if_false] at hq
        have H := hide hq
        clear hq hqx
        go_wp2
        go_roundw
        case rel => exact ⟨k + 1, by omega, by go_num, H, HB1⟩
        case measure => simp [nI]; omega
      · rw [hqx] at hq
        simp only [if_true] at hq
        have H := hide hq
        clear hq hqx
        go_wp2
        go_ret
        exact ⟨ret_int H.out.symm, HB1.out⟩
    · have hq := HQ.out
      rw [List.drop_of_length_le (by omega), ixQ_nil] at hq
      have H := hide hq
      clear hq
      go_wp2
      go_ret
      exact ⟨ret_int H.out.symm, HB.out⟩
set_option maxHeartbeats 4000000 in
theorem index59n (A : Option Addr) (c : Nat) (l : List Jb) (n : Int) (p : Nat) (w : World) (hS : Sl jbC 5 w A c l) (hp : Blk w p 3 #[.int .i64 n]) :
    Calls Try.prog 59 #[.slice A l.length c, .func (.func 60) #[] #[.pointer (some ⟨p, 0, none⟩)]] w fun e w' => e = .returned (.int .i64 (ixQ (fun x => x.no == n) l 0)) ∧ Below w.heap.size w w' := by
  have hlc := hS.le
  have hc := hS.max
  have HS := hide hS
  have K := hide (fun (x : Jb) W (h : Below w.heap.size w W) => same60 x n p W (hp.bel h))
  obtain ⟨q, hq⟩ : ∃ q : Jb → Bool, (fun x => x.no == n) = q := ⟨_, rfl⟩
  have K2 : Hid (∀ (x : Jb) W, Below w.heap.size w W → Calls Try.prog 60 #[jbV x, .pointer (some ⟨p, 0, none⟩)] W fun e w' => e = .returned (.bool (q x)) ∧ Below W.heap.size W w') := hide (fun x W h => by rw [← hq]; exact K.out x W h)
  rw [hq]
  clear hS hq K
  simp only [jbV, jbC] at K2
  go_enter Try.func59, Try.ntmps59
  go_wp2
  go_loopw [8] (fun v8 wr => ∃ (k : Nat), k ≤ l.length ∧ v8 = .int .i64 k ∧ Hid (ixQ q l 0 = ixQ q (l.drop k) k) ∧ Hid (Below w.heap.size w wr)) (fun i _ => l.length - (nI i).toNat)
  case atStart => exact ⟨0, Nat.zero_le _, rfl, rfl, Below.refl _ _⟩
  case round =>
    obtain ⟨k, hk, rfl, HQ, HB⟩ := hrel
    by_cases hlt : k < l.length
    · obtain ⟨x, b, off, hx, hdr, rfl, hbw, d0, d1, d2, d3, d4⟩ := Sl.jb_at (HS.out.bel HB.out) hlt
      have hq := HQ.out
      rw [hdr, ixQ_cons] at hq
      have kz : (k : Int) < (l.length : Int) := by omega
      have K3 := hide (K2.out x wr HB.out)
      clear hdr hx HQ
      go_wp2_with fail
      refine K3.out.mono ?_
      rintro e w1 ⟨rfl, hb⟩
      have HB1 := hide (kcall HB.out hb)
      clear hb K3 d0 d1 d2 d3 d4
      cases hqx : q x
      · rw [hqx] at hq
        simp only [Bool.false_eq_true, if_false] at hq
        have H := hide hq
        clear hq hqx
        go_wp2
        go_roundw
        case rel => exact ⟨k + 1, by omega, by go_num, H, HB1⟩
        case measure => simp [nI]; omega
      · rw [hqx] at hq
        simp only [if_true] at hq
        have H := hide hq
        clear hq hqx
        go_wp2
        go_ret
        exact ⟨ret_int H.out.symm, HB1.out⟩
    · have hq := HQ.out
      rw [List.drop_of_length_le (by omega), ixQ_nil] at hq
      have H := hide hq
      clear hq
      go_wp2
      go_ret
      exact ⟨ret_int H.out.symm, HB.out⟩
set_option maxHeartbeats 4000000 in
theorem contains48w (A : Option Addr) (c : Nat) (l : List Jb) (w : World) (hS : Sl jbC 5 w A c l) :
    Calls Try.prog 48 #[.slice A l.length c, .func (.func 73) #[] #[]] w fun e w' => e = .returned (.bool (!waits l)) ∧ Below w.heap.size w w' := by
  have K := hide (index59w A c l w hS)
  have HE : Hid (decide (0 ≤ ixQ (fun x => x.ready != 0) l 0) = !waits l) := hide (by
    rw [ixQ_any]
    unfold waits
    rw [List.not_all_eq_any_not]
    rfl)
  generalize ixQ (fun x => x.ready != 0) l 0 = i at *
  generalize waits l = r at *
  clear hS
  go_enter Try.func48, Try.ntmps48
  go_wp2_with fail
  refine K.out.mono ?_
  rintro e w' ⟨rfl, hb⟩
  go_wp2
  go_ret
  exact ⟨ret_bool HE.out, hb⟩
set_option maxHeartbeats 4000000 in
theorem error50 (A : Option Addr) (c : Nat) (l : List Jb) (w : World) (hS : Sl jbC 5 w A c l) :
    Calls Try.prog 50 #[.slice A l.length c] w fun e w' => e = .returned (.int .i64 (errH l)) ∧ Below w.heap.size w w' := by
  have hlc := hS.le
  have hc := hS.max
  have K1 := hide (check27 A c l w hS)
  have K2 := hide (fun W (h : Below w.heap.size w W) => contains48w A c l W (hS.bel h))
  have HE := hide (show errH l = (if chk l ≠ 0 then chk l else if 10 < l.length then 2 else if waits l = true then 0 else 430) from rfl)
  generalize errH l = R at HE ⊢
  generalize chk l = z at *
  generalize waits l = b at *
  clear hS
  by_cases hz : z = 0
  · subst hz
    by_cases h10 : 10 < l.length
    · have e := HE.out
      rw [if_neg (by simp), if_pos h10] at e
      have g10 : (10 : Int) < (l.length : Int) := by omega
      subst e
      clear HE h10
      go_enter Try.func50, Try.ntmps50
      go_wp2_with fail
      refine K1.out.mono ?_
      rintro e w1 ⟨rfl, hb⟩
      go_wp2
      go_ret
      exact ⟨rfl, hb⟩
    · have e := HE.out
      rw [if_neg (by simp), if_neg h10] at e
      have g10 : ¬ (10 : Int) < (l.length : Int) := by omega
      clear HE h10
      cases b
      all_goals
        simp only [Bool.false_eq_true, if_false, if_true] at e
        subst e
        go_enter Try.func50, Try.ntmps50
        go_wp2_with fail
        refine K1.out.mono ?_
        rintro e w1 ⟨rfl, hb⟩
        have HB1 := hide hb
        clear hb K1
        go_wp2_with fail
        refine (K2.out w1 HB1.out).mono ?_
        rintro e w2 ⟨rfl, hb⟩
        have HB2 := hide (kcall HB1.out hb)
        clear hb K2
        go_wp2
        go_ret
        exact ⟨rfl, HB2.out⟩
  · have e := HE.out
    rw [if_pos hz] at e
    have gz : (z != 0) = true := by simpa using hz
    subst e
    clear HE hz
    go_enter Try.func50, Try.ntmps50
    go_wp2_with fail
    refine K1.out.mono ?_
    rintro e w1 ⟨rfl, hb⟩
    go_wp2
    go_ret
    exact ⟨rfl, hb⟩
set_option maxHeartbeats 4000000 in
theorem error57 (A : Option Addr) (c : Nat) (l : List Jb) (w : World) (hS : Sl jbC 5 w A c l) :
    Calls Try.prog 57 #[.slice A l.length c] w fun e w' => e = .returned (.int .i64 (errH l)) ∧ Below w.heap.size w w' := by
  have hlc := hS.le
  have hc := hS.max
  have HS := hide hS
  have K1 := hide (check28 A c l w hS)
  have HE := hide (show errH l = (if chk l ≠ 0 then chk l else if 10 < l.length then 2 else if waits l = true then 0 else 430) from rfl)
  generalize errH l = R at HE ⊢
  generalize chk l = z at *
  clear hS
  by_cases hz : z = 0
  · subst hz
    by_cases h10 : 10 < l.length
    · have e := HE.out
      rw [if_neg (by simp), if_pos h10] at e
      have g10 : (10 : Int) < (l.length : Int) := by omega
      subst e
      clear HE h10
      go_enter Try.func57, Try.ntmps57
      go_wp2_with fail
      refine K1.out.mono ?_
      rintro e w1 ⟨rfl, hb⟩
      go_wp2
      go_ret
      exact ⟨rfl, hb⟩
    · have e := HE.out
      rw [if_neg (by simp), if_neg h10] at e
      have HE2 := hide e
      have g10 : ¬ (10 : Int) < (l.length : Int) := by omega
      clear HE h10 e
      go_enter Try.func57, Try.ntmps57
      go_wp2_with fail
      refine K1.out.mono ?_
      rintro e w1 ⟨rfl, hb⟩
      have HB1 := hide hb
      clear hb K1
      go_wp2
      go_loopw [4] (fun v4 wr => ∃ (k : Nat), k ≤ l.length ∧ v4 = .int .i64 k ∧ Hid (∀ x ∈ l.take k, x.ready = 0) ∧ Hid (Below w.heap.size w wr)) (fun i _ => l.length - (nI i).toNat)
      case atStart => exact ⟨0, Nat.zero_le _, rfl, by intro x hx; simp at hx, HB1⟩
      case round =>
        clear HB1
        obtain ⟨k, hk, rfl, HQ, HB⟩ := hrel
        by_cases hlt : k < l.length
        · obtain ⟨x, b, off, hx, _, rfl, hbw, d0, d1, d2, d3, d4⟩ := Sl.jb_at (HS.out.bel HB.out) hlt
          have kz : (k : Int) < (l.length : Int) := by omega
          have HX := hide hx
          clear hx
          by_cases hr : x.ready = 0
          · have gr : (x.ready != 0) = false := by simp [hr]
            have HQ2 : Hid (∀ y ∈ l.take (k + 1), y.ready = 0) := hide (by
              rw [take_of_get HX.out]
              intro y hy
              rcases List.mem_append.1 hy with hy | hy
              · exact HQ.out y hy
              · simp at hy; subst hy; exact hr)
            clear hr
            go_wp2
            go_roundw
            case rel => exact ⟨k + 1, by omega, by go_num, HQ2, HB⟩
            case measure => simp [nI]; omega
          · have gr : (x.ready != 0) = true := by simpa using hr
            have hw : waits l = false := by
              unfold waits
              rw [List.all_eq_false]
              exact ⟨x, List.mem_of_getElem? HX.out, by simpa using hr⟩
            have e2 := HE2.out
            rw [hw] at e2
            simp only [Bool.false_eq_true, if_false] at e2
            subst e2
            clear hr hw HE2
            go_wp2
            go_ret
            exact ⟨rfl, HB.out⟩
        · have hw : waits l = true := by
            unfold waits
            rw [List.all_eq_true]
            have h := HQ.out
            rw [List.take_of_length_le (by omega)] at h
            exact fun x hx => by rw [h x hx]; rfl
          have e2 := HE2.out
          rw [hw] at e2
          simp only [if_true] at e2
          subst e2
          clear hw HE2
          go_wp2
          go_ret
          exact ⟨rfl, HB.out⟩
  · have e := HE.out
    rw [if_pos hz] at e
    have gz : (z != 0) = true := by simpa using hz
    subst e
    clear HE hz
    go_enter Try.func57, Try.ntmps57
    go_wp2_with fail
    refine K1.out.mono ?_
    rintro e w1 ⟨rfl, hb⟩
    go_wp2
    go_ret
    exact ⟨rfl, hb⟩
set_option maxHeartbeats 2000000 in
theorem index61 (A : Option Addr) (c : Nat) (l : List Jb) (n : Int) (w : World) (hS : Sl jbC 5 w A c l) :
    Calls Try.prog 61 #[.slice A l.length c, .int .i64 n] w fun e w' => e = .returned (.int .i64 (ixJ l n 0)) ∧ w = w' := by
  have hlc := hS.le
  have hc := hS.max
  go_enter Try.func61, Try.ntmps61
  go_wp2
  go_loop [5] (fun i => ∃ k : Nat, k ≤ l.length ∧ i = .int .i64 k ∧ Hid (ixJ l n 0 = ixJ (l.drop k) n k)) (fun i => l.length - (nI i).toNat)
  case atStart => exact ⟨0, Nat.zero_le _, rfl, rfl⟩
  case round =>
    obtain ⟨k, hk, rfl, HQ⟩ := hrel
    by_cases hlt : k < l.length
    · obtain ⟨x, b, off, hx, hdr, rfl, hbw, c0, _⟩ := Sl.jb_at hS hlt
      have hq := HQ.out
      rw [hdr, ixJ_cons] at hq
      have kz : (k : Int) < (l.length : Int) := by omega
      clear hdr hx HQ
      rcases Bool.eq_false_or_eq_true (x.no == n) with g1 | g1
      · rw [if_pos (by simpa using g1)] at hq
        have H := hide hq
        clear hq
        go_wp2
        go_ret
        exact ⟨ret_int H.out.symm, rfl⟩
      · rw [if_neg (by simpa using g1)] at hq
        have H := hide hq
        clear hq
        go_wp2
        go_round
        case rel => exact ⟨k + 1, by omega, by go_num, H⟩
        case measure => simp [nI]; omega
    · have hq := HQ.out
      rw [List.drop_of_length_le (by omega), ixJ_nil] at hq
      have H := hide hq
      clear hq
      go_wp2
      go_ret
      exact ⟨ret_int H.out.symm, rfl⟩
end Go.Proofs.Ytbkokljelopcnaa
namespace Go.Proofs.Ytbkokljelopcnaa
open Go.RowKit Go.Mine Go.Mine.Q
attribute [local go_sem] Oper.semAt_some
def KeptE (l : List Jb) (keep : List Int) (w : World) (e : Ending) (w' : World) : Prop := ∃ A c, e = .returned (.tuple #[.slice A ((keptGo l (-1) keep).getD []).length c, .bool (keptGo l (-1) keep).isSome]) ∧ Sl jbC 5 w' A c ((keptGo l (-1) keep).getD []) ∧ Below w.heap.size w w'
theorem keptGo_nil (l : List Jb) (last : Int) : keptGo l last [] = some [] := rfl
theorem keptGo_cons (l : List Jb) (last n : Int) (r : List Int) : keptGo l last (n :: r) = (match jobOf l n with | none => none | some j => if n ≤ last then none else (keptGo l n r).map (j :: ·)) := rfl
theorem map_app {o : Option (List Jb)} (k0 : List Jb) (j : Jb) : (o.map (j :: ·)).map (k0 ++ ·) = o.map ((k0 ++ [j]) ++ ·) := by
  cases o with
  | none => rfl
  | some x => simp
theorem ix_get (l : List Jb) (n : Int) : (ixJ l n 0 = -1 ∧ jobOf l n = none) ∨ ∃ (i : Nat) (x : Jb), l[i]? = some x ∧ ixJ l n 0 = (i : Int) ∧ jobOf l n = some x ∧ x.no = n := by
  rcases ixJ_job l n 0 with h | ⟨i, x, h1, h2, h3, h4⟩
  · exact .inl h
  · exact .inr ⟨i, x, h1, by rw [h2, Nat.zero_add], h3, h4⟩
set_option maxRecDepth 100000 in
set_option maxHeartbeats 8000000 in
theorem kept38 (A : Option Addr) (c : Nat) (l : List Jb) (B : Option Addr) (d : Nat) (keep : List Int) (w : World) (hS : Sl jbC 5 w A c l) (hT : Sl ic 1 w B d keep) (hz : chk l = 0) (hk : keep.length ≤ 100000) :
    Calls Try.prog 38 #[.slice A l.length c, .slice B keep.length d] w (KeptE l keep w) := by
  obtain ⟨hr, h64, hok⟩ := right_of hz
  have hlc := hS.le
  have hc := hS.max
  have hld := hT.le
  have hd := hT.max
  have HS := hide hS
  have HT := hide hT
  have HR := hide hr
  have KI := hide (fun n W (h : Below w.heap.size w W) => index61 A c l n W (hS.bel h))
  obtain ⟨R, hR⟩ : ∃ R, keptGo l (-1) keep = R := ⟨_, rfl⟩
  unfold KeptE
  rw [hR]
  have HQ0 : Hid (R = (keptGo l (-1) (keep.drop 0)).map ([] ++ ·)) := hide (by rw [← hR]; simp)
  obtain ⟨i0, hi, hz0, hz1, hz2⟩ := info_parts Try_info39
  have HI := hide hi
  clear hS hT hr hok hR hi hz
  go_enter Try.func38, Try.ntmps38
  go_wp2
  go_loopw [6, 7] (fun v6 v7 wr => ∃ (i : Nat) (last : Int) (k0 : List Jb), i ≤ keep.length ∧ v7 = .int .i64 i ∧ Hid (R = (keptGo l last (keep.drop i)).map (k0 ++ ·)) ∧ Hid ((i = 0 → last = -1) ∧ ∀ q y, i = q + 1 → keep[q]? = some y → last = y) ∧ Hid (k0.length = i) ∧ Hid (OwnL jbC 5 39 wr w.heap.size v6 k0) ∧ Hid (Below w.heap.size w wr)) (fun _ i _ => keep.length - (nI i).toNat)
  case atStart => exact ⟨0, -1, [], Nat.zero_le _, rfl, HQ0, ⟨fun _ => rfl, fun q y h => by omega⟩, rfl, OwnL.nil _ _ _ _ _, Below.refl _ _⟩
  case round =>
    clear HQ0
    obtain ⟨i, last, k0, hi, rfl, HQ, HL, HK, HO, HB⟩ := hrel
    by_cases hlt : i < keep.length
    · obtain ⟨n, b2, off2, hn, hdr, rfl, hbw2, p0⟩ := Sl.ic_at (HT.out.bel HB.out) hlt
      have hq := HQ.out
      rw [hdr, keptGo_cons] at hq
      have iz : (i : Int) < (keep.length : Int) := by omega
      have KI1 := hide (KI.out n wr HB.out)
      rcases ix_get l n with ⟨e1, e2⟩ | ⟨k, x, hx, e1, e2, rfl⟩
      · rw [e2] at hq
        rw [e1] at KI1
        simp only [Option.map_none] at hq
        have H := hide hq
        clear hq HQ e1 e2 hdr hn HL
        go_wp2_with fail
        refine KI1.out.mono ?_
        rintro e w' ⟨rfl, rfl⟩
        (go_wp2_with fail; refine wp_still_all (by kernel_rfl) (by kernel_rfl) ?_; (repeat (first | ((with_reducible refine wpStill_step (fun K hK => ?_)); go_simp; (try go_bits); (with_reducible refine hK _ ?_); clear hK K) | ((with_reducible refine wpStill_step (fun K hK => ?_)); go_simp; rw [if_neg (by simp [undef])]; (with_reducible refine hK _ ?_); clear hK K))); (with_reducible refine wpStill_nil ?_))
        go_wp2
        exact bodyPost_ret (v := .tuple #[.slice none 0 0, .bool false]) (by simp [results, Try.results38, go_sem]) rfl ⟨none, 0, by rw [H.out]; rfl, by rw [H.out]; exact Sl.nil (by decide), HB.out.drew⟩
      · rw [e2] at hq
        rw [e1] at KI1
        simp only at hq
        have hxr := rightJ_iff.1 (HR.out x (List.mem_of_getElem? hx))
        obtain ⟨hL1, hL2⟩ := HL.out
        have hkl : k < l.length := (List.getElem?_eq_some_iff.1 hx).1
        have kz : (k : Int) < (l.length : Int) := by omega
        have hci : (decide (0 < i) = false ∧ last = -1) ∨ (decide (0 < i) = true ∧ ∃ j : Nat, IntKind.i64.wrap ((i : Int) - 1) = (j : Int) ∧ (j : Int) < (keep.length : Int) ∧ wr.cell? ⟨b2, off2 + j, none⟩ = some (.int .i64 last)) := by
          rcases Nat.eq_zero_or_pos i with h0 | h0
          · left; exact ⟨decide_eq_false (by omega), hL1 h0⟩
          · right
            refine ⟨decide_eq_true h0, i - 1, by rw [IntKind.wrap_i64]; omega, by omega, ?_⟩
            obtain ⟨y, b', off', hy, _, e', _, y0⟩ := Sl.ic_at (HT.out.bel HB.out) (k := i - 1) (by omega)
            cases e'
            rw [hL2 (i - 1) y (by omega) hy]; exact y0
        have HX := hide hx
        have HN := hide hn
        clear e1 e2 hdr hn HL hL1 hL2 hx HQ
        by_cases hc2 : x.no ≤ last
        · rw [if_pos hc2] at hq
          simp only [Option.map_none] at hq
          have H := hide hq
          rcases hci with ⟨g0, g1⟩ | ⟨g0, j, j1, j2, j3⟩
          · omega
          · clear hq
            go_wp2_with fail
            refine KI1.out.mono ?_
            rintro e w' ⟨rfl, rfl⟩
            (go_wp2_with fail; refine wp_still_all (by kernel_rfl) (by kernel_rfl) ?_; (repeat (first | ((with_reducible refine wpStill_step (fun K hK => ?_)); go_simp; (try go_bits); (with_reducible refine hK _ ?_); clear hK K) | ((with_reducible refine wpStill_step (fun K hK => ?_)); go_simp; rw [if_neg (by simp [undef])]; (with_reducible refine hK _ ?_); clear hK K))); (with_reducible refine wpStill_nil ?_))
            go_wp2
            exact bodyPost_ret (v := .tuple #[.slice none 0 0, .bool false]) (by simp [results, Try.results38, go_sem]) rfl ⟨none, 0, by rw [H.out]; rfl, by rw [H.out]; exact Sl.nil (by decide), HB.out.drew⟩
        · rw [if_neg hc2, map_app] at hq
          have H := hide hq
          have hg : decide (x.no ≤ last) = false := decide_eq_false hc2
          clear hq hc2
          obtain ⟨x', b, off, hx', _, rfl, hbw, d0, d1, d2, d3, d4⟩ := Sl.jb_at (HS.out.bel HB.out) hkl
          obtain rfl : x' = x := by rw [HX.out] at hx'; exact (Option.some.inj hx').symm
          have hkk := HK.out
          have HLn : Hid ((i + 1 = 0 → x'.no = -1) ∧ ∀ q y, i + 1 = q + 1 → keep[q]? = some y → x'.no = y) := hide ⟨fun h => by omega, fun q y h hy => by
            obtain rfl : q = i := by omega
            rw [HN.out] at hy; exact Option.some.inj hy⟩
          clear hx'
          rcases hci with ⟨g0, g1⟩ | ⟨g0, j, j1, j2, j3⟩
          all_goals
            go_wp2_with fail
            refine KI1.out.mono ?_
            rintro e w' ⟨rfl, rfl⟩
            (go_wp2_with fail; refine wp_still_all (by kernel_rfl) (by kernel_rfl) ?_; (repeat (first | ((with_reducible refine wpStill_step (fun K hK => ?_)); go_simp; (try go_bits); (with_reducible refine hK _ ?_); clear hK K) | ((with_reducible refine wpStill_step (fun K hK => ?_)); go_simp; rw [if_neg (by simp [undef])]; (with_reducible refine hK _ ?_); clear hK K))); (with_reducible refine wpStill_nil ?_))
            go_wp2_with (at_builtin; refine wpList_append rfl (.tmp 39) (.tmp 44) 22 rfl rfl rfl (run_extend (f := jbC) (base := w.heap.size) (l1 := k0) (l2 := [x']) Try.underlying22 HI.out hz0 hz1 hz2 rfl (by decide) (HO.out.alloc _).drew (Sl.one (Blk.new _ _ _).drew rfl rfl (by decide) (by decide)) (jb_one _) ?_ ?_ ?_) ?_)
            · simp only [List.length_singleton]; unfold maxLen; omega
            · simp only [List.length_singleton]; omega
            · have := HB.out.size; simp; omega
            · intro v9 w9 hO9 hg9 hat9
              have HO9 := hide hO9
              have HB9 : Hid (Below w.heap.size w w9) := hide (Below.grown (kalloc HB.out _).drew hg9 (by have := HB.out.size; simp; omega) (fun g hg => (HO.out.blk hg).1))
              have HK9 : Hid ((k0 ++ [x']).length = i + 1) := hide (by simp; omega)
              clear hO9 hg9 hat9 d0 d1 d2 d3 d4 HO
              go_wp2
              go_roundw
              case rel => exact ⟨i + 1, x'.no, k0 ++ [x'], by omega, by go_num, H, HLn, HK9, HO9, HB9⟩
              case measure => simp [nI]; omega
    · obtain rfl : i = keep.length := by omega
      have hq := HQ.out
      rw [List.drop_length, keptGo_nil] at hq
      simp only [Option.map_some, List.append_nil] at hq
      have H := hide hq
      obtain ⟨A2, c2, rfl, hS2⟩ := HO.out.sl
      have HS2 := hide hS2
      clear hq HQ hS2 HO
      go_wp2
      exact bodyPost_ret (v := .tuple #[.slice A2 k0.length c2, .bool true]) (by simp [results, Try.results38, go_sem]) rfl ⟨A2, c2, by rw [H.out]; rfl, by rw [H.out]; exact HS2.out, HB.out⟩
end Go.Proofs.Ytbkokljelopcnaa
namespace Go.Proofs.Ytbkokljelopcnaa
open Go.RowKit Go.Mine Go.Mine.Q
attribute [local go_sem] Oper.semAt_some
def inT : Option (List Jb) → Bool
  | none => false
  | some m => inTime m
theorem fitsB_is (l : List Jb) (keep : List Int) : fitsB l keep = inT (keptGo l (-1) keep) := by
  unfold fitsB
  cases keptGo l (-1) keep <;> rfl
set_option maxRecDepth 100000 in
set_option maxHeartbeats 8000000 in
theorem fits35_good (A : Option Addr) (c : Nat) (l : List Jb) (B : Option Addr) (d : Nat) (keep : List Int) (w : World) (hS : Sl jbC 5 w A c l) (hT : Sl ic 1 w B d keep) (hz : errH l = 0) (hk : keep.length ≤ 100000) :
    Calls Try.prog 35 #[.slice A l.length c, .slice B keep.length d] w fun e w' => e = .returned (.tuple #[.bool (fitsB l keep), .int .i64 0]) ∧ Below w.heap.size w w' := by
  have K1 := hide (error57 A c l w hS)
  rw [hz] at K1
  have hW := Wt.of hz
  have K2 := hide (fun W (h : Below w.heap.size w W) => kept38 A c l B d keep W (hS.bel h) (hT.bel h) hW.chk hk)
  unfold KeptE at K2
  obtain ⟨R, hR⟩ : ∃ R, keptGo l (-1) keep = R := ⟨_, rfl⟩
  rw [hR] at K2
  have HF : Hid (fitsB l keep = inT R) := hide (by rw [fitsB_is, hR])
  have HWM : Hid (∀ m, R = some m → Wt m) := hide (fun m hm => hW.sub (kept_sub hW.inc (hR.trans hm)).1)
  generalize fitsB l keep = ok at *
  clear hS hT hz hR hW
  go_enter Try.func35, Try.ntmps35
  go_wp2_with fail
  refine K1.out.mono ?_
  rintro e w1 ⟨rfl, hb⟩
  have HB1 := hide hb
  clear hb K1
  go_wp2_with fail
  refine (K2.out w1 HB1.out).mono ?_
  rintro e w2 ⟨A2, c2, rfl, hS2, hb⟩
  have HB2 := hide (kcall HB1.out hb)
  clear hb K2
  cases R with
  | none =>
    have h := HF.out
    simp only [inT] at h
    subst h
    simp only [Option.isSome_none]
    go_wp2
    exact bodyPost_ret (v := .tuple #[.bool false, .int .i64 0]) (by simp [results, Try.results35, go_sem]) rfl ⟨rfl, HB2.out⟩
  | some m =>
    have h := HF.out
    simp only [inT] at h
    have hWm := HWM.out m rfl
    simp only [Option.isSome_some, Option.getD_some] at *
    have K3 := hide (run24 A2 c2 m w2 hS2)
    unfold RunE at K3
    rw [hWm.runB, hWm.chk, ← h] at K3
    clear h HF hWm HWM hS2
    go_wp2_with fail
    refine K3.out.mono ?_
    rintro e w3 ⟨A3, c3, rfl, hS3, hb⟩
    have HB3 := hide (kcall HB2.out hb)
    clear hb K3 hS3
    go_wp2
    exact bodyPost_ret (v := .tuple #[.bool ok, .int .i64 0]) (by simp [results, Try.results35, go_sem]) rfl ⟨rfl, HB3.out⟩
theorem fits35 (A : Option Addr) (c : Nat) (l : List Jb) (B : Option Addr) (d : Nat) (keep : List Int) (w : World) (hS : Sl jbC 5 w A c l) (hT : Sl ic 1 w B d keep) (hk : keep.length ≤ 100000) :
    Calls Try.prog 35 #[.slice A l.length c, .slice B keep.length d] w fun e w' => e = .returned (.tuple #[.bool (fitsR l keep).1, .int .i64 (fitsR l keep).2]) ∧ Below w.heap.size w w' := by
  by_cases hz : errH l = 0
  · have := fits35_good A c l B d keep w hS hT hz hk
    unfold fitsR; rw [if_pos hz]; exact this
  · have K := hide (error57 A c l w hS)
    have gz : (errH l != 0) = true := by simpa using hz
    unfold fitsR
    rw [if_neg hz]
    generalize errH l = z at K gz ⊢
    clear hS hT hz
    go_enter Try.func35, Try.ntmps35
    go_wp2_with fail
    refine K.out.mono ?_
    rintro e w1 ⟨rfl, hb⟩
    go_wp2
    exact bodyPost_ret (v := .tuple #[.bool false, .int .i64 z]) (by simp [results, Try.results35, go_sem]) rfl ⟨rfl, hb⟩
set_option maxRecDepth 100000 in
set_option maxHeartbeats 8000000 in
theorem fits34_good (A : Option Addr) (c : Nat) (l : List Jb) (B : Option Addr) (d : Nat) (keep : List Int) (w : World) (hS : Sl jbC 5 w A c l) (hT : Sl ic 1 w B d keep) (hz : errH l = 0) (hk : keep.length ≤ 100000) :
    Calls Try.prog 34 #[.slice A l.length c, .slice B keep.length d] w fun e w' => e = .returned (.tuple #[.bool (fitsB l keep), .int .i64 0]) ∧ Below w.heap.size w w' := by
  have K1 := hide (error50 A c l w hS)
  rw [hz] at K1
  have hW := Wt.of hz
  have hlc := hS.le
  have hc := hS.max
  have hld := hT.le
  have hd := hT.max
  have HS := hide hS
  have HT := hide hT
  have KI := hide (fun n p W (h : Below w.heap.size w W) (hp : Blk W p 3 #[.int .i64 n]) => index59n A c l n p W (hS.bel h) hp)
  obtain ⟨R, hR⟩ : ∃ R, keptGo l (-1) keep = R := ⟨_, rfl⟩
  have HF : Hid (fitsB l keep = inT R) := hide (by rw [fitsB_is, hR])
  have HWM : Hid (∀ m, R = some m → Wt m) := hide (fun m hm => hW.sub (kept_sub hW.inc (hR.trans hm)).1)
  have HQ0 : Hid (R = (keptGo l (-1) (keep.drop 0)).map ([] ++ ·)) := hide (by rw [← hR]; simp)
  have hl10 := hW.len
  generalize fitsB l keep = ok at *
  obtain ⟨i0, hi, hz0, hz1, hz2⟩ := info_parts Try_info39
  have HI := hide hi
  clear hS hT hz hR hW hi
  go_enter Try.func34, Try.ntmps34
  go_wp2_with fail
  refine K1.out.mono ?_
  rintro e w1 ⟨rfl, hb⟩
  have HB1 := hide hb
  clear hb K1
  go_wp2
  go_loopw [6, 7, 18] (fun v6 v7 v18 wr => ∃ (i : Nat) (last : Int) (k0 : List Jb), i ≤ keep.length ∧ v18 = .int .i64 i ∧ v7 = .int .i64 last ∧ Hid (R = (keptGo l last (keep.drop i)).map (k0 ++ ·)) ∧ Hid (k0.length = i) ∧ Hid (OwnL jbC 5 39 wr w.heap.size v6 k0) ∧ Hid (Below w.heap.size w wr)) (fun _ _ i _ => keep.length - (nI i).toNat)
  case atStart => exact ⟨0, -1, [], Nat.zero_le _, rfl, rfl, HQ0, rfl, OwnL.nil _ _ _ _ _, HB1⟩
  case round =>
    clear HQ0 HB1
    obtain ⟨i, last, k0, hi, rfl, rfl, HQ, HK, HO, HB⟩ := hrel
    by_cases hlt : i < keep.length
    · obtain ⟨n, b2, off2, hn, hdr, rfl, hbw2, p0⟩ := Sl.ic_at (HT.out.bel HB.out) hlt
      have hq := HQ.out
      rw [hdr, keptGo_cons] at hq
      have iz : (i : Int) < (keep.length : Int) := by omega
      obtain ⟨w7, hw7⟩ : ∃ w7, wr.alloc (.cells #[.int .i64 n] 3) = w7 := ⟨_, rfl⟩
      have X7 : Blk w7 wr.heap.size 3 #[.int .i64 n] := by rw [← hw7]; exact Blk.new _ _ _
      have hb7 : Below wr.heap.size wr w7 := by rw [← hw7]; exact kalloc (Below.refl _ _) _
      have KI1 := hide (KI.out n wr.heap.size w7 (kcall HB.out hb7) X7)
      have hix := ix_get l n
      rw [← ixQ_no] at hix
      generalize ixQ (fun x => x.no == n) l 0 = ix at *
      have HB7 := hide (kcall HB.out hb7)
      have HO7 := hide (HO.out.bel hb7)
      have HX7 := hide X7
      have hvb : ∀ g, u6.ownBlock = some g → w.heap.size ≤ g ∧ g < wr.heap.size := fun g hg => ⟨(HO.out.blk hg).1, (HO.out.blk hg).2.1⟩
      have HVB := hide hvb
      clear hdr hn HQ hb7 X7 HO HB hvb
      rcases hix with ⟨rfl, e2⟩ | ⟨k, x, hx, rfl, e2, e3⟩
      · rw [e2] at hq
        simp only [Option.map_none] at hq
        have hok := HF.out
        rw [hq] at hok
        simp only [inT] at hok
        subst hok
        clear hq e2 HF HWM
        go_wp2_with fail
        refine KI1.out.mono ?_
        rintro e w8 ⟨rfl, hb8⟩
        have HB8 := hide (kcall HB7.out hb8)
        go_wp2
        exact bodyPost_ret (v := .tuple #[.bool false, .int .i64 0]) (by simp [results, Try.results34, go_sem]) rfl ⟨rfl, HB8.out⟩
      · rw [e2] at hq
        simp only at hq
        have HX := hide hx
        have HE3 := hide e3
        have kz : (k : Int) < (l.length : Int) := by have := (List.getElem?_eq_some_iff.1 hx).1; omega
        have hkl : k < l.length := by omega
        clear e2 e3 hx
        by_cases hc2 : n ≤ last
        · rw [if_pos hc2] at hq
          simp only [Option.map_none] at hq
          have hok := HF.out
          rw [hq] at hok
          simp only [inT] at hok
          subst hok
          have hg : decide (n ≤ last) = true := decide_eq_true hc2
          clear hq HF HWM hc2
          go_wp2_with fail
          refine KI1.out.mono ?_
          rintro e w8 ⟨rfl, hb8⟩
          have HB8 := hide (kcall HB7.out hb8)
          have m0 := (HX7.out.bel hb8).cell (v := .int .i64 n) 0 rfl
          have ml := (HX7.out.bel hb8).lt
          clear hb8
          go_wp2
          exact bodyPost_ret (v := .tuple #[.bool false, .int .i64 0]) (by simp [results, Try.results34, go_sem]) rfl ⟨rfl, HB8.out⟩
        · rw [if_neg hc2, map_app] at hq
          have H := hide hq
          have hg : decide (n ≤ last) = false := decide_eq_false hc2
          clear hq hc2
          go_wp2_with fail
          refine KI1.out.mono ?_
          rintro e w8 ⟨rfl, hb8⟩
          have HB8 := hide (kcall HB7.out hb8)
          have HO8 := hide (HO7.out.bel hb8)
          have m0 := (HX7.out.bel hb8).cell (v := .int .i64 n) 0 rfl
          have ml := (HX7.out.bel hb8).lt
          obtain ⟨x', b, off, hx', _, rfl, hbw, d0, d1, d2, d3, d4⟩ := Sl.jb_at (HS.out.bel HB8.out) hkl
          obtain rfl : x' = x := by rw [HX.out] at hx'; exact (Option.some.inj hx').symm
          have hkk := HK.out
          obtain ⟨_, _, _, _, _, e', hbw0, _⟩ := Sl.jb_at HS.out hkl
          cases e'
          have hw8 := HB8.out.size
          have hgt : ∀ g : Nat, some g = u6.ownBlock → g ≠ wr.heap.size ∧ g ≠ b := fun g hg => by have := HVB.out g hg.symm; omega
          clear hb8 hx' KI1 HO7 HX7 HB7
          go_wp2_with fail
          go_region_held3 (fun w' => w'.cell? ⟨wr.heap.size, 0, none⟩ = some (.int .i64 n) ∧ w'.cell? ⟨b, off + k * 5, none⟩ = some (.int .i64 x'.no) ∧ w'.cell? ⟨b, off + k * 5 + 1, none⟩ = some (.int .i64 x'.ready) ∧ w'.cell? ⟨b, off + k * 5 + 2, none⟩ = some (.int .i64 x'.due) ∧ w'.cell? ⟨b, off + k * 5 + 3, none⟩ = some (.int .i64 x'.need) ∧ w'.cell? ⟨b, off + k * 5 + 4, none⟩ = some (.bool x'.alt))
            (first | exact ⟨m0, d0, d1, d2, d3, d4⟩ | exact ⟨f0, f1, f2, f3, f4, f5⟩ | go_keep)
            (first
              | (refine step_append (v := u6) (u := .slice (some ⟨_, 0, none⟩) 1 1) rfl (.tmp 33) (.tmp 38) 22 rfl rfl rfl (run_extend (f := jbC) (base := w.heap.size) (l1 := k0) (l2 := [x']) Try.underlying22 HI.out hz0 hz1 hz2 rfl (by decide) (HO8.out.alloc _).drew (Sl.one (Blk.new _ _ _).drew rfl rfl (by decide) (by decide)) (jb_one _) (by simp [maxLen]; omega) (by simp; omega) (by simp; omega)) ?_
                 rintro v' w' ⟨gO, gG, gB⟩
                 have f0 := gcell (b := wr.heap.size) (o := 0) (v := .int .i64 n) gG (by simp; omega) (fun e => (hgt _ e).1 rfl) (by simp [go_sem, m0, ml])
                 have f1 := gcell (b := b) (o := off + k * 5) (v := .int .i64 x'.no) gG (by simp; omega) (fun e => (hgt _ e).2 rfl) (by simp [go_sem, d0, hbw])
                 have f2 := gcell (b := b) (o := off + k * 5 + 1) (v := .int .i64 x'.ready) gG (by simp; omega) (fun e => (hgt _ e).2 rfl) (by simp [go_sem, d1, hbw])
                 have f3 := gcell (b := b) (o := off + k * 5 + 2) (v := .int .i64 x'.due) gG (by simp; omega) (fun e => (hgt _ e).2 rfl) (by simp [go_sem, d2, hbw])
                 have f4 := gcell (b := b) (o := off + k * 5 + 3) (v := .int .i64 x'.need) gG (by simp; omega) (fun e => (hgt _ e).2 rfl) (by simp [go_sem, d3, hbw])
                 have f5 := gcell (b := b) (o := off + k * 5 + 4) (v := .bool x'.alt) gG (by simp; omega) (fun e => (hgt _ e).2 rfl) (by simp [go_sem, d4, hbw])
                 have gBel : Below w.heap.size w w' := Below.grown (kalloc HB8.out _).drew gG (by simp; omega) (fun g hg => (HVB.out g hg).1)))
          all_goals
            have HO9 := hide gO
            have HB9 := hide gBel
            have HK9 : Hid ((k0 ++ [x']).length = i + 1) := hide (by simp; omega)
            clear gO gG gB gBel d0 d1 d2 d3 d4 m0 HO8 HB8
            try clear f0 f1 f2 f3 f4 f5
            go_wp2
            go_roundw
            case rel => exact ⟨i + 1, n, k0 ++ [x'], by omega, by go_num, rfl, H, HK9, HO9, HB9⟩
            case measure => simp [nI]; omega
    · obtain rfl : i = keep.length := by omega
      have hq := HQ.out
      rw [List.drop_length, keptGo_nil] at hq
      simp only [Option.map_some, List.append_nil] at hq
      have hok := HF.out
      rw [hq] at hok
      simp only [inT] at hok
      have hWm := HWM.out k0 hq
      obtain ⟨A2, c2, rfl, hS2⟩ := HO.out.sl
      have K3 := hide (run22 A2 c2 k0 wr hS2)
      unfold RunE at K3
      rw [hWm.runB, hWm.chk, ← hok] at K3
      clear hq HQ hS2 HO hok hWm HWM HF
      go_wp2_with fail
      refine K3.out.mono ?_
      rintro e w3 ⟨A3, c3, rfl, hS3, hb⟩
      have HB3 := hide (kcall HB.out hb)
      clear hb K3 hS3
      go_wp2
      exact bodyPost_ret (v := .tuple #[.bool ok, .int .i64 0]) (by simp [results, Try.results34, go_sem]) rfl ⟨rfl, HB3.out⟩
theorem fits34 (A : Option Addr) (c : Nat) (l : List Jb) (B : Option Addr) (d : Nat) (keep : List Int) (w : World) (hS : Sl jbC 5 w A c l) (hT : Sl ic 1 w B d keep) (hk : keep.length ≤ 100000) :
    Calls Try.prog 34 #[.slice A l.length c, .slice B keep.length d] w fun e w' => e = .returned (.tuple #[.bool (fitsR l keep).1, .int .i64 (fitsR l keep).2]) ∧ Below w.heap.size w w' := by
  by_cases hz : errH l = 0
  · have := fits34_good A c l B d keep w hS hT hz hk
    unfold fitsR; rw [if_pos hz]; exact this
  · have K := hide (error50 A c l w hS)
    have gz : (errH l != 0) = true := by simpa using hz
    unfold fitsR
    rw [if_neg hz]
    generalize errH l = z at K gz ⊢
    clear hS hT hz
    go_enter Try.func34, Try.ntmps34
    go_wp2_with fail
    refine K.out.mono ?_
    rintro e w1 ⟨rfl, hb⟩
    go_wp2
    exact bodyPost_ret (v := .tuple #[.bool false, .int .i64 z]) (by simp [results, Try.results34, go_sem]) rfl ⟨rfl, hb⟩
end Go.Proofs.Ytbkokljelopcnaa
