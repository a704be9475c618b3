/-
  portions: numbers within a limit; what is given; the level.
  portions: the level.
  portions: who wants more than the level.
  portions.Divide.
-/
import Derived.Test.YtnngemgfochodaaGreatTM3
import Derived.Test.YtnngemgfochodaaGreatQuietB
import Derived.Test.YtnngemgfochodaaGreatTM1
import Derived.Test.YtnngemgfochodaaGreatBase2
import Derived.Test.YtnngemgfochodaaGreatIter
import Derived.LoopIn
import Derived.Test.YtnngemgfochodaaGreatPushIn
import Derived.Test.YtnngemgfochodaaGreatOwnAt
import Derived.Test.YtnngemgfochodaaGreatCells
import Derived.Shelf.Abstract
namespace Go.Proofs.YtnngemgfochodaaGreat
open Go.RowKit Go.Mine Go.Mine.X
attribute [local go_sem] Oper.semAt_some
def inM (m n : Int) : Bool := decide (0 ≤ n) && decide (n ≤ m)
theorem inM_iff {m n : Int} : inM m n = true ↔ 0 ≤ n ∧ n ≤ m := by simp [inM]
theorem out81 (m n : Int) (w : World) (q : Nat) (X : Blk w q 3 #[.int .i64 m]) : Calls Tryz.prog 81 #[.int .i64 n, .pointer (some ⟨q, 0, none⟩)] w fun e w' => e = .returned (.bool (!inM m n)) ∧ w = w' := by
  have x0 := X.cell (v := .int .i64 m) 0 rfl
  have xl := X.lt
  clear X
  by_cases h1 : n < 0
  · have g1 : decide (n < 0) = true := decide_eq_true h1
    have e : inM m n = false := by unfold inM; simp; omega
    rw [e]
    clear h1 e
    go_enter Tryz.func81, Tryz.ntmps81
    go_wp2
    go_ret
    exact ⟨rfl, rfl⟩
  · have g1 : decide (n < 0) = false := decide_eq_false h1
    have e : decide (m < n) = !inM m n := by
      unfold inM
      rw [decide_eq_true (show 0 ≤ n by omega), Bool.true_and]
      by_cases h : n ≤ m
      · rw [decide_eq_true h, decide_eq_false (by omega)]; rfl
      · rw [decide_eq_false h, decide_eq_true (by omega)]; rfl
    have HE := hide e
    clear h1 e
    go_enter Tryz.func81, Tryz.ntmps81
    go_wp2
    all_goals
      go_ret
      exact ⟨ret_bool (by have h := HE.out; first | exact h | (rw [← h]; done) | (rw [← h]; simp [*])), rfl⟩
set_option maxHeartbeats 1000000 in
theorem index60w (m : Int) (A : Option Addr) (c : Nat) (l : List Int) (w : World) (hS : Sl ic 1 w A c l) (q : Nat) (X : Blk w q 3 #[.int .i64 m]) :
    Calls Tryz.prog 60 #[.slice A l.length c, .func (.func 81) #[] #[.pointer (some ⟨q, 0, none⟩)]] w fun e w' => (∃ i : Int, e = .returned (.int .i64 i) ∧ decide (0 ≤ i) = l.any (fun n => !inM m n)) ∧ w = w' := by
  have hlc := hS.le
  have hc := hS.max
  have KX := hide (fun n => out81 m n w q X)
  clear X
  go_enter Tryz.func60, Tryz.ntmps60
  go_wp2
  go_loop [5, 8] (fun _ i => ∃ k : Nat, k ≤ l.length ∧ i = .int .i64 k ∧ l.any (fun n => !inM m n) = (l.drop k).any (fun n => !inM m n)) (fun _ i => l.length - (nI i).toNat)
  case atStart => exact ⟨0, Nat.zero_le _, rfl, rfl⟩
  case round =>
    obtain ⟨k, hk, rfl, hq⟩ := hrel
    by_cases hlt : k < l.length
    · obtain ⟨x, b, off, hx, hdr, rfl, hbw, c1⟩ := Sl.ic_at hS hlt
      rw [hdr, List.any_cons] at hq
      have K := hide (KX.out x)
      generalize inM m x = r at K hq
      clear hdr hx hS KX
      cases r
      · rw [Bool.not_false, Bool.true_or] at hq
        have H := hide hq
        clear hq
        go_wp2_with fail
        refine (K.out).mono ?_
        rintro e w' ⟨rfl, rfl⟩
        go_wp2
        go_ret
        exact ⟨⟨_, rfl, by rw [H.out]; simp⟩, rfl⟩
      · rw [Bool.not_true, Bool.false_or] at hq
        have H := hide hq
        clear hq
        go_wp2_with fail
        refine (K.out).mono ?_
        rintro e w' ⟨rfl, rfl⟩
        go_wp2
        go_round
        case rel => exact ⟨k + 1, by omega, by go_num, H.out⟩
        case measure => simp [nI]; omega
    · rw [List.drop_of_length_le (by omega)] at hq
      have H := hide hq
      clear hq
      go_wp2
      go_ret
      exact ⟨⟨_, rfl, by rw [H.out]; rfl⟩, rfl⟩
theorem contains35w (m : Int) (A : Option Addr) (c : Nat) (l : List Int) (w : World) (hS : Sl ic 1 w A c l) (q : Nat) (X : Blk w q 3 #[.int .i64 m]) :
    Calls Tryz.prog 35 #[.slice A l.length c, .func (.func 81) #[] #[.pointer (some ⟨q, 0, none⟩)]] w fun e w' => e = .returned (.bool (l.any (fun n => !inM m n))) ∧ w = w' := by
  have K := hide (index60w m A c l w hS q X)
  generalize l.any (fun n => !inM m n) = r at K
  clear hS X
  go_enter Tryz.func35, Tryz.ntmps35
  go_wp2_with fail
  refine (K.out).mono ?_
  rintro e w' ⟨⟨i, rfl, hi⟩, rfl⟩
  go_wp2
  go_ret
  exact ⟨ret_bool (by first | rfl | exact hi), rfl⟩
theorem within64 (m : Int) (A : Option Addr) (c : Nat) (l : List Int) (w : World) (hS : Sl ic 1 w A c l) (h : ∀ x ∈ l, 0 ≤ x ∧ x ≤ m) :
    Calls Tryz.prog 64 #[.int .i64 m, .slice A l.length c] w fun e w' => e = .returned (.bool true) ∧ Below w.heap.size w w' := by
  have K := hide (contains35w m A c l (w.alloc (.cells #[.int .i64 m] 3)) (hS.alloc _) w.heap.size (Blk.new w _ 3))
  have HB := hide (kalloc (Below.refl w.heap.size w) (.cells #[.int .i64 m] 3))
  have e : l.any (fun n => !inM m n) = false := by
    rw [← Bool.not_eq_true, List.any_eq_true]
    rintro ⟨x, hx, h2⟩
    rw [inM_iff.2 (h x hx)] at h2
    cases h2
  rw [e] at K
  clear hS h e
  go_enter Tryz.func64, Tryz.ntmps64
  go_wp2_with fail
  refine K.out.mono ?_
  rintro e w' ⟨rfl, rfl⟩
  go_wp2
  go_ret
  exact ⟨rfl, HB.out⟩
theorem check51 (c : Int) (A : Option Addr) (cc : Nat) (l : List Int) (w : World) (hS : Sl ic 1 w A cc l) (hl : l.length ≤ 32) (hc : 0 ≤ c ∧ c ≤ 1099511627776) (h : ∀ x ∈ l, 0 ≤ x ∧ x ≤ 1099511627776) :
    Calls Tryz.prog 51 #[.int .i64 c, .slice A l.length cc] w fun e w' => e = .returned (.int .i64 0) ∧ Below w.heap.size w w' := by
  have hlc := hS.le
  have hcm := hS.max
  have hb0 : Below w.heap.size w (w.alloc (.cells #[.int .i64 c] 3)) := kalloc (Below.refl _ _) _
  have K1 := hide (within64 1099511627776 (some ⟨w.heap.size, 0, none⟩) 1 [c] (w.alloc (.cells #[.int .i64 c] 3)) (Sl.one (Blk.new _ _ _) rfl rfl (by decide) (by decide)) (by intro x hx; rw [List.mem_singleton] at hx; subst hx; exact hc))
  have K2 := hide (fun W (hb : Below w.heap.size w W) => within64 1099511627776 A cc l W (hS.bel hb) h)
  have HB0 := hide hb0
  have g1 : ¬ (32 : Int) < (l.length : Int) := by omega
  simp only [List.length_singleton] at K1
  clear hS hc h hb0
  go_enter Tryz.func51, Tryz.ntmps51
  go_wp2_with fail
  refine K1.out.mono ?_
  rintro e w1 ⟨rfl, hb⟩
  have HB1 := hide (kcall HB0.out hb)
  clear hb K1
  go_wp2_with fail
  refine (K2.out _ HB1.out).mono ?_
  rintro e w2 ⟨rfl, hb⟩
  have HB2 := hide (kcall HB1.out hb)
  clear hb K2
  go_wp2
  go_ret
  exact ⟨rfl, HB2.out⟩
/-- what all get together -/
theorem given53 (A : Option Addr) (c : Nat) (ds : List Int) (n : Int) (w : World) (hS : Sl ic 1 w A c ds) (hl : ds.length ≤ 32) (hd : ∀ d ∈ ds, 0 ≤ d ∧ d ≤ 1099511627776) (hn : 0 ≤ n) :
    Calls Tryz.prog 53 #[.slice A ds.length c, .int .i64 n] w fun e w' => e = .returned (.int .i64 (givenP ds n)) ∧ w = w' := by
  have hlc := hS.le
  have hc := hS.max
  have HB := hide (fun k => given_bound (m := 1099511627776) (ds := ds.take k) (fun d h => hd d (List.mem_of_mem_take h)) hn)
  have HD := hide hd
  clear hd
  go_enter Tryz.func53, Tryz.ntmps53
  go_wp2
  go_loop [4, 9] (fun s i => ∃ k : Nat, k ≤ ds.length ∧ i = .int .i64 k ∧ s = .int .i64 (givenP (ds.take k) n)) (fun _ i => ds.length - (nI i).toNat)
  case atStart => exact ⟨0, Nat.zero_le _, rfl, by rw [List.take_zero]; rfl⟩
  case round =>
    obtain ⟨k, hk, rfl, rfl⟩ := hrel
    by_cases hlt : k < ds.length
    · obtain ⟨x, b, off, hx, hdr, rfl, hbw, c1⟩ := Sl.ic_at hS hlt
      have HX := hide (given_take hx n)
      have hb := HB.out k
      have hx0 := HD.out x (List.mem_of_getElem? hx)
      have hlk : ((ds.take k).length : Int) ≤ 32 := by rw [List.length_take]; omega
      have hb2 : givenP (ds.take k) n ≤ 32 * 1099511627776 := by omega
      have hw : IntKind.i64.wrap (givenP (ds.take k) n + if n < x then n else x) = givenP (ds.take k) n + min x n := by rw [IntKind.wrap_i64]; omega
      clear hx hdr hb hb2 hlk hS
      generalize givenP (ds.take k) n = s at *
      go_wp2
      go_round
      case rel => exact ⟨k + 1, by omega, by go_num, by rw [HX.out]⟩
      case measure => simp [nI]; omega
    · obtain rfl : k = ds.length := by omega
      rw [List.take_length]
      go_wp2
      go_ret
      exact ⟨rfl, rfl⟩
/-- too much, with a level -/
theorem more66 (n c : Int) (A : Option Addr) (cc : Nat) (ds : List Int) (w : World) (p q : Nat) (X : Blk w p 24 #[.slice A ds.length cc]) (Y : Blk w q 3 #[.int .i64 c]) (hS : Sl ic 1 w A cc ds) (hl : ds.length ≤ 32) (hd : ∀ d ∈ ds, 0 ≤ d ∧ d ≤ 1099511627776) (hn : 0 ≤ n) :
    Calls Tryz.prog 66 #[.int .i64 n, .pointer (some ⟨p, 0, none⟩), .pointer (some ⟨q, 0, none⟩)] w fun e w' => e = .returned (.bool (decide (c < givenP ds n))) ∧ Below w.heap.size w w' := by
  have KG := hide (fun W (hb : Below w.heap.size w W) => given53 A cc ds n W (hS.bel hb) hl hd hn)
  have x0 := X.bw (v := .slice A ds.length cc) 0 rfl
  have y0 := Y.bw (v := .int .i64 c) 0 rfl
  have xl := X.lt
  have yl := Y.lt
  generalize givenP ds n = g at *
  clear X Y hS hd
  go_enter Tryz.func66, Tryz.ntmps66
  go_wp2_with fail
  refine wp_quiet_below (by kernel_rfl) (by kernel_rfl) ?_
  repeat (go_big_quiet_step ((go_at_call 53; exact quiet_same (KG.out _ (by first | exact BW.below _ | exact Below.refl _ _)))))
  refine wpQuiet_nil ?_
  rintro _ ⟨z, rfl⟩
  have HZ := hide z.below
  go_wp2
  go_ret
  exact ⟨rfl, HZ.out⟩
end Go.Proofs.YtnngemgfochodaaGreat
namespace Go.Proofs.YtnngemgfochodaaGreat
open Go.RowKit Go.Mine Go.Mine.X
attribute [local go_sem] Oper.semAt_some
/-- the first level that is too much -/
theorem search65 (L c : Int) (A : Option Addr) (cc : Nat) (ds : List Int) (w : World) (p q : Nat) (X : Blk w p 24 #[.slice A ds.length cc]) (Y : Blk w q 3 #[.int .i64 c]) (hS : Sl ic 1 w A cc ds) (hl : ds.length ≤ 32) (hd : ∀ d ∈ ds, 0 ≤ d ∧ d ≤ 1099511627776) (hL : 1 ≤ L ∧ L ≤ 1099511627777) (hc : 0 ≤ c) :
    Calls Tryz.prog 65 #[.int .i64 L, .func (.func 66) #[] #[.pointer (some ⟨p, 0, none⟩), .pointer (some ⟨q, 0, none⟩)]] w fun e w' => (∃ r : Int, e = .returned (.int .i64 r) ∧ 1 ≤ r ∧ r ≤ L ∧ givenP ds (r - 1) ≤ c) ∧ Below w.heap.size w w' := by
  have KM := hide (fun n W (hb : Below w.heap.size w W) (hn : 0 ≤ n) => more66 n c A cc ds W p q (X.bel hb) (Y.bel hb) (hS.bel hb) hl hd hn)
  have HZ := hide (given_zero (ds := ds) fun d h => (hd d h).1)
  clear X Y hS hd hl
  go_enter Tryz.func65, Tryz.ntmps65
  go_wp2
  go_loopw [0, 5] (fun v0 v5 wr => ∃ lo hi : Int, v5 = .int .i64 lo ∧ v0 = .int .i64 hi ∧ 0 ≤ lo ∧ lo ≤ hi ∧ hi ≤ L ∧ Hid (lo = 0 ∨ givenP ds (lo - 1) ≤ c) ∧ Hid (hi = L ∨ c < givenP ds hi) ∧ Hid (Below w.heap.size w wr)) (fun v0 v5 _ => (nI v0 - nI v5).toNat)
  case atStart => exact ⟨0, L, rfl, rfl, by omega, by omega, by omega, .inl rfl, .inl rfl, Below.refl _ _⟩
  case round =>
    obtain ⟨lo, hi, rfl, rfl, h0, h1, h2, HA, HC, HB⟩ := hrel
    by_cases hlt : lo < hi
    · have hq : IntKind.i64.wrap ((lo + hi).tdiv 2) = (lo + hi) / 2 := by rw [Int.tdiv_eq_ediv_of_nonneg (by omega), IntKind.wrap_i64]; omega
      have hq1 : IntKind.i64.wrap (lo + hi) = lo + hi := by rw [IntKind.wrap_i64]; omega
      obtain ⟨m, hm⟩ : ∃ m, (lo + hi) / 2 = m := ⟨_, rfl⟩
      have hm1 : lo ≤ m ∧ m < hi := by omega
      have K := hide (KM.out m wr HB.out (by omega))
      rw [hm] at hq
      have hw : IntKind.i64.wrap (m + 1) = m + 1 := by rw [IntKind.wrap_i64]; omega
      by_cases hg : c < givenP ds m
      · rw [decide_eq_true hg] at K
        have HG := hide hg
        clear hg
        go_wp2_with fail
        refine K.out.mono ?_
        rintro e w1 ⟨rfl, hb⟩
        have HB1 := hide (kcall HB.out hb)
        clear hb K
        go_wp2
        go_roundw
        case rel => exact ⟨lo, m, rfl, rfl, h0, by omega, by omega, HA, .inr HG.out, HB1⟩
        case measure => simp [nI]; omega
      · rw [decide_eq_false hg] at K
        have HG := hide hg
        clear hg
        go_wp2_with fail
        refine K.out.mono ?_
        rintro e w1 ⟨rfl, hb⟩
        have HB1 := hide (kcall HB.out hb)
        clear hb K
        go_wp2
        go_roundw
        case rel => exact ⟨m + 1, hi, by go_num, rfl, by omega, by omega, by omega, .inr (by have := HG.out; rw [show m + 1 - 1 = m by omega]; omega), HC, HB1⟩
        case measure => simp [nI]; omega
    · obtain rfl : lo = hi := by omega
      have hA := HA.out
      have hC := HC.out
      have hz := HZ.out
      have h3 : 1 ≤ lo := by
        rcases hC with h | h
        · omega
        · by_cases e : lo = 0
          · rw [e, hz] at h; omega
          · omega
      have H4 : Hid (givenP ds (lo - 1) ≤ c) := hide (by rcases hA with h | h; omega; exact h)
      clear hA hC hz HA HC HZ
      go_wp2
      go_ret
      exact ⟨⟨lo, rfl, h3, h2, H4.out⟩, HB.out⟩
theorem level52 (c : Int) (A : Option Addr) (cc : Nat) (ds : List Int) (w : World) (hS : Sl ic 1 w A cc ds) (hl : ds.length ≤ 32) (hd : ∀ d ∈ ds, 0 ≤ d ∧ d ≤ 1099511627776) (hc : 0 ≤ c) :
    Calls Tryz.prog 52 #[.int .i64 c, .slice A ds.length cc] w fun e w' => (∃ n : Int, e = .returned (.int .i64 n) ∧ 0 ≤ n ∧ n ≤ 1099511627776 ∧ givenP ds n ≤ c) ∧ Below w.heap.size w w' := by
  have hlc := hS.le
  have hcm := hS.max
  obtain ⟨w1, hw1⟩ : ∃ w1, (w.alloc (.cells #[.int .i64 c] 3)).alloc (.cells #[.slice A ds.length cc] 24) = w1 := ⟨_, rfl⟩
  have X1 : Blk w1 (w.heap.size + 1) 24 #[.slice A ds.length cc] := by rw [← hw1]; exact Blk.new1 _ _ _ _
  have Y1 : Blk w1 w.heap.size 3 #[.int .i64 c] := by rw [← hw1]; exact (Blk.new _ _ _).alloc _
  have HB1 : Hid (Below w.heap.size w w1) := hide (by rw [← hw1]; exact kalloc (kalloc (Below.refl _ _) _) _)
  have hS1 : Sl ic 1 w1 A cc ds := hS.bel HB1.out
  have KS := hide (fun L hL => search65 L c A cc ds w1 (w.heap.size + 1) w.heap.size X1 Y1 hS1 hl hd hL hc)
  have x0 := X1.cell (v := .slice A ds.length cc) 0 rfl
  have xl := X1.lt
  have HD := hide hd
  clear X1 Y1 hS hd
  go_enter Tryz.func52, Tryz.ntmps52
  go_wp2
  go_loop [5, 10] (fun v5 i => ∃ (k : Nat) (m : Int), k ≤ ds.length ∧ i = .int .i64 k ∧ v5 = .int .i64 m ∧ 0 ≤ m ∧ m ≤ 1099511627776) (fun _ i => ds.length - (nI i).toNat)
  case atStart => exact ⟨0, 0, Nat.zero_le _, rfl, rfl, by omega, by omega⟩
  case round =>
    obtain ⟨k, m, hk, rfl, rfl, hm0, hm1⟩ := hrel
    by_cases hlt : k < ds.length
    · obtain ⟨x, b, off, hx, hdr, rfl, hbw, c1⟩ := Sl.ic_at hS1 hlt
      have hx0 := HD.out x (List.mem_of_getElem? hx)
      clear hx hdr hS1
      go_wp2
      all_goals
        go_round
        case rel => exact ⟨k + 1, _, by omega, by go_num, rfl, by omega, by omega⟩
        case measure => simp [nI]; omega
    · have hw : IntKind.i64.wrap (m + 1) = m + 1 := by rw [IntKind.wrap_i64]; omega
      have K := hide (KS.out (m + 1) ⟨by omega, by omega⟩)
      clear hS1 KS
      go_wp2_with fail
      refine K.out.mono ?_
      rintro e w2 ⟨⟨r, rfl, h1, h2, h3⟩, hb⟩
      have HB2 := hide (kcall HB1.out hb)
      have H3 := hide h3
      have hw2 : IntKind.i64.wrap (r - 1) = r - 1 := by rw [IntKind.wrap_i64]; omega
      clear hb K h3
      go_wp2
      go_ret
      exact ⟨⟨r - 1, by go_num, by omega, by omega, H3.out⟩, HB2.out⟩
end Go.Proofs.YtnngemgfochodaaGreat
namespace Go.Mine.X
def wantK (ds : List Int) (n : Int) (k : Nat) : List Nat := (List.range k).filter fun i => decide (n < ds[i]?.getD 0)
theorem wantK_all (ds : List Int) (n : Int) : wantK ds n ds.length = wantP ds n := rfl
theorem wantK_yes {ds : List Int} {n x : Int} {k : Nat} (hx : ds[k]? = some x) (h : n < x) : wantK ds n (k + 1) = wantK ds n k ++ [k] := by
  unfold wantK
  rw [List.range_succ, List.filter_append, List.filter_cons_of_pos (by rw [hx]; exact decide_eq_true h)]
  rfl
theorem wantK_no {ds : List Int} {n x : Int} {k : Nat} (hx : ds[k]? = some x) (h : ¬ n < x) : wantK ds n (k + 1) = wantK ds n k := by
  unfold wantK
  rw [List.range_succ, List.filter_append, List.filter_cons_of_neg (by rw [hx]; simpa using h)]
  simp
theorem wantK_pre (ds : List Int) (n : Int) : ∀ d k : Nat, ∃ r, wantK ds n (k + d) = wantK ds n k ++ r
  | 0, k => ⟨[], by simp⟩
  | d + 1, k => by
    obtain ⟨r, hr⟩ := wantK_pre ds n d k
    refine ⟨r ++ [k + d].filter fun i => decide (n < ds[i]?.getD 0), ?_⟩
    rw [← List.append_assoc, ← hr]
    unfold wantK
    rw [show k + (d + 1) = k + d + 1 by omega, List.range_succ, List.filter_append]
theorem want_at {ds : List Int} {n x : Int} {k : Nat} (hx : ds[k]? = some x) (h : n < x) : (wantP ds n)[(wantK ds n k).length]? = some k := by
  have hk := (List.getElem?_eq_some_iff.1 hx).1
  obtain ⟨r, hr⟩ := wantK_pre ds n (ds.length - (k + 1)) (k + 1)
  rw [show k + 1 + (ds.length - (k + 1)) = ds.length by omega, wantK_all, wantK_yes hx h] at hr
  rw [hr, List.append_assoc, List.getElem?_append_right (Nat.le_refl _), Nat.sub_self]
  rfl
end Go.Mine.X
namespace Go.Proofs.YtnngemgfochodaaGreat
open Go.RowKit Go.Mine Go.Mine.X
attribute [local go_sem] Oper.semAt_some
theorem slHeap {α : Type} {f : α → List Value} {sz : Nat} {w w' : World} {A : Option Addr} {c : Nat} {l : List α} (h : Sl f sz w A c l) (hk : ∀ x, x < w.heap.size → w'.heap[x]? = w.heap[x]?) (hz : w.heap.size ≤ w'.heap.size) : Sl f sz w' A c l :=
  ⟨h.le, h.max, h.size, fun hn => by
    obtain ⟨b, off, e, hb, hc⟩ := h.cells hn
    exact ⟨b, off, e, by omega, fun i v hv => (World.cell?_of_block (a := ⟨b, off + i, none⟩) (hk b hb)).trans (hc i v hv)⟩⟩
theorem wanting54 (A : Option Addr) (c l : Nat) (m : Int) (w : World) : Calls Tryz.prog 54 #[.slice A l c, .int .i64 m] w fun e w' => e = .returned (.func (.func 67) #[] #[.pointer (some ⟨w.heap.size, 0, none⟩), .pointer (some ⟨w.heap.size + 1, 0, none⟩)]) ∧ w' = (w.alloc (.cells #[.slice A l c] 24)).alloc (.cells #[.int .i64 m] 3) := by
  go_enter Tryz.func54, Tryz.ntmps54
  go_wp2
  go_ret
  exact ⟨rfl, rfl⟩
set_option maxHeartbeats 4000000 in
theorem wanting67_iter (w0 w1 : World) (A : Option Addr) (c : Nat) (ds : List Int) (n : Int) (hS : Sl ic 1 w0 A c ds) (hb : Below w0.heap.size w0 w1) (p q : Nat) (X : Blk w1 p 24 #[.slice A ds.length c]) (Y : Blk w1 q 3 #[.int .i64 n]) :
    Iter Tryz.prog 67 #[.pointer (some ⟨p, 0, none⟩), .pointer (some ⟨q, 0, none⟩)] ((wantP ds n).map fun i : Nat => #[Value.int .i64 (i : Int)]) (fun x => x < w0.heap.size ∨ x = p ∨ x = q) w1 := by
  intro N lp J Jx W hw hR hJ hJx hY h0
  have hlc := hS.le
  have hc := hS.max
  have hwz := hb.size
  have hbp := (hR p (.inr (.inl rfl))).2.trans X.at_
  have hbq := (hR q (.inr (.inr rfl))).2.trans Y.at_
  have XW : Blk W p 24 #[.slice A ds.length c] := ⟨(Array.getElem?_eq_some_iff.1 hbp).1, hbp⟩
  have YW : Blk W q 3 #[.int .i64 n] := ⟨(Array.getElem?_eq_some_iff.1 hbq).1, hbq⟩
  have HRJ := hide (fun x (h : x < w0.heap.size) => ((hR x (.inl h)).2).trans (hb.block x h))
  have HRW := hide (fun x (h : x < w0.heap.size ∨ x = p ∨ x = q) => show x < W.heap.size by have := (hR x h).1; omega)
  have HS := hide hS
  have HYW := hide YW
  have x0 := XW.cell (v := .slice A ds.length c) 0 rfl
  have xl := XW.lt
  have HY := hide @hY
  have H0 := hide h0
  have hwW : w0.heap.size ≤ W.heap.size := by omega
  clear hY h0 hR XW YW X Y hS hbp hbq hb
  refine callsIn_of_wp Tryz.func67 rfl trivial ?_ rfl
  simp only [Tryz.ntmps67]
  simp only [List.size_toArray, List.length_cons, List.length_nil, Nat.reduceAdd, Nat.reduceSub, Array.replicate_succ, Array.replicate_zero, List.push_toArray, List.append_toArray, List.nil_append, List.cons_append]
  gi_wp2
  gi_loopw [4, 5, 8] (fun _ _ i wr => ∃ (k : Nat) (O : Nat → Prop), k ≤ ds.length ∧ i = .int .i64 k ∧ Hid (J (wantK ds n k).length O wr) ∧ Hid (∀ x, O x → W.heap.size ≤ x ∧ x < wr.heap.size) ∧ W.heap.size ≤ wr.heap.size ∧ Hid (∀ x, (x < w0.heap.size ∨ x = p ∨ x = q) → wr.heap[x]? = W.heap[x]?)) (fun _ _ i _ => ds.length - (nI i).toNat)
  case atStart => exact ⟨0, _, Nat.zero_le _, rfl, H0, fun _ h => h.elim, Nat.le_refl _, fun _ _ => rfl⟩
  case round =>
    obtain ⟨k, O, hk, rfl, HJ1, HO, hz, HK⟩ := hrel
    by_cases hlt : k < ds.length
    · have hSr : Sl ic 1 wr A c ds := slHeap HS.out (fun x hx => (HK.out x (.inl hx)).trans (HRJ.out x hx)) (by omega)
      obtain ⟨x, b, off, hx, hdr, rfl, hbw, c1⟩ := Sl.ic_at hSr hlt
      have hqc : wr.cell? ⟨q, 0, none⟩ = some (.int .i64 n) := (World.cell?_of_block (a := ⟨q, 0, none⟩) (HK.out q (.inr (.inr rfl)))).trans (HYW.out.cell 0 rfl)
      have hql : q < wr.heap.size := by have := HRW.out q (.inr (.inr rfl)); omega
      have iz : (k : Int) < (ds.length : Int) := by omega
      by_cases hg : n < x
      · have hY' := HY.out (wantK ds n k).length #[Value.int .i64 (k : Int)] O wr (by rw [List.getElem?_map, want_at hx hg]; rfl) HJ1.out HO.out hz
        have HN := hide (show (wantK ds n (k + 1)).length = (wantK ds n k).length + 1 by rw [wantK_yes hx hg]; simp)
        obtain ⟨fn, tmps, assign, body, hy, hRR⟩ := hY'
        have g1 : decide (n < x) = true := decide_eq_true hg
        clear hg hx hdr hSr
        gi_wp2
        refine hRR.mono ?_
        rintro e W' ⟨hK, (⟨rfl, hj'⟩ | ⟨rfl, hjx⟩)⟩
        · have HKY : Hid (∀ x, (x < w0.heap.size ∨ x = p ∨ x = q) → W'.heap[x]? = W.heap[x]?) := hide (fun x hx => (hK.keep x (by have := HRW.out x hx; omega) (.inr hx)).trans (HK.out x hx))
          have hKz := hK.size
          gi_wp2
          go_roundw
          case rel => exact ⟨k + 1, O, by omega, by go_num, by rw [HN.out]; exact hj', fun x hx => by have := HO.out x hx; omega, by omega, HKY⟩
          case measure => simp [nI]; omega
        · have hKz := hK.size
          have hOs := HO.out
          gi_wp2
          refine bodyPost_ret (results_none rfl _ _ _) rfl ?_
          exact ⟨⟨_, rfl⟩, O, fun x hx => by have := hOs x hx; omega, by omega, .inr hjx⟩
      · have HN := hide (wantK_no hx hg)
        have g1 : decide (n < x) = false := decide_eq_false hg
        clear hg hx hdr hSr
        gi_wp2
        go_roundw
        case rel => exact ⟨k + 1, O, by omega, by go_num, by rw [HN.out]; exact HJ1, HO, hz, HK⟩
        case measure => simp [nI]; omega
    · obtain rfl : k = ds.length := by omega
      have hOs := HO.out
      have HCj := HJ1
      gi_wp2
      refine bodyPost_end (results_none rfl _ _ _) rfl ?_
      exact ⟨⟨_, rfl⟩, O, hOs, hz, .inl (by rw [List.length_map, ← wantK_all]; exact HCj.out)⟩
end Go.Proofs.YtnngemgfochodaaGreat
namespace Go.Proofs.YtnngemgfochodaaGreat
open Go.RowKit Go.Shelf Go.Mine Go.Mine.X
attribute [local go_sem] Oper.semAt_some
theorem Try_infoI : (Tryz.prog.info? 3).map (fun i => (i.zero, i.size, i.bytes)) = some (some (.int .i64 0), 1, 8) := by kernel_rfl
theorem ic_ones (l : List Int) : ∀ x ∈ l, ∀ u ∈ ic x, u.oneCell' = true := by
  intro x _ u hu; simp [ic] at hu; subst hu; rfl
theorem divG_le {c : Int} {ds : List Int} {n : Int} {rest : List Nat} {v : Int} {l : List Int} (h : DivG c ds n rest v l) (hd : ∀ d ∈ ds, 0 ≤ d) (hn : 0 ≤ n) : v ≤ c := by
  have h1 : ∀ {l : List Int}, (∀ x ∈ l, 0 ≤ x) → 0 ≤ l.sum := by
    intro l h
    induction l with
    | nil => simp
    | cons y l ih =>
      have h1 := h y (by simp)
      have := ih fun x hx => h x (List.mem_cons_of_mem _ hx)
      simp only [List.sum_cons]; omega
  have h2 : ∀ x ∈ l, 0 ≤ x := fun x hx => by
    obtain ⟨i, hi⟩ := List.getElem?_of_mem hx
    have hil : i < ds.length := by
      have := (List.getElem?_eq_some_iff.1 hi).1
      rw [h.len] at this; exact this
    have h3 := h.lev i ds[i] x (List.getElem?_eq_getElem hil) hi
    have h4 := hd ds[i] (List.getElem_mem hil)
    omega
  have := h1 h2
  have := h.sum
  omega
/-- what stands while those who want more get 1 more, one after the other -/
def DvI (w w6 : World) (q9 : Nat) (vL : Value) (c : Int) (ds : List Int) (n : Int) (rest : List Nat) (O : Nat → Prop) (X : World) : Prop :=
  (∀ b, O b → w6.heap.size ≤ b) ∧ w6.heap.size ≤ X.heap.size ∧ Below w.heap.size w X ∧ ∃ (L : List Int) (v : Int), DivG c ds n rest v L ∧ Blk X w.heap.size 24 #[vL] ∧ Blk X q9 3 #[.int .i64 v] ∧ OwnL ic 1 3 X (w.heap.size + 1) vL L
theorem DvI.stable {w w6 : World} {q9 : Nat} {vL : Value} {c : Int} {ds : List Int} {n : Int} {rest : List Nat} (h9 : q9 < w6.heap.size) (hw : w.heap.size < w6.heap.size) (hv : ∀ g, vL.ownBlock = some g → g < w6.heap.size) {O O' : Nat → Prop} {X X' : World} (h : DvI w w6 q9 vL c ds n rest O X) (st : IStep O O' X X') : DvI w w6 q9 vL c ds n rest O' X' := by
  obtain ⟨h1, h2, h3, L, v, h4, h5, h6, h7⟩ := h
  have hno : ∀ b, b < w6.heap.size → ¬ O b := fun b hb h => by have := h1 b h; omega
  refine ⟨O_step st h1 h2, Nat.le_trans h2 st.size, st.below h3 (by have := h3.size; omega) (fun b hb => by have := h1 b hb; omega), L, v, h4, ?_, ?_, ?_⟩
  · exact ⟨Nat.lt_of_lt_of_le h5.lt st.size, (st.keep _ h5.lt (hno _ hw)).trans h5.at_⟩
  · exact ⟨Nat.lt_of_lt_of_le h6.lt st.size, (st.keep _ h6.lt (hno _ h9)).trans h6.at_⟩
  · exact h7.keep fun g hg => st.keep g (by have := hv g hg; omega) (hno g (hv g hg))
set_option maxHeartbeats 8000000 in
set_option maxRecDepth 100000 in
theorem divide27 (c : Int) (A : Option Addr) (cc : Nat) (ds : List Int) (w : World) (hS : Sl ic 1 w A cc ds) (hl : ds.length ≤ 32) (hc : 0 ≤ c ∧ c ≤ 1099511627776) (hd : ∀ d ∈ ds, 0 ≤ d ∧ d ≤ 1099511627776) :
    Calls Tryz.prog 27 #[.int .i64 c, .slice A ds.length cc] w fun e w' => ∃ (B : Option Addr) (d : Nat) (L : List Int), e = .returned (.tuple #[.slice B L.length d, .int .i64 0]) ∧ Sl ic 1 w' B d L ∧ DivP c ds L ∧ Below w.heap.size w w' := by
  have hlc := hS.le
  have hcm := hS.max
  obtain ⟨w1, hw1⟩ : ∃ w1, w.alloc (.cells #[.slice none 0 0] 24) = w1 := ⟨_, rfl⟩
  have hb1 : Below w.heap.size w w1 := by rw [← hw1]; exact kalloc (Below.refl _ _) _
  have HX1 : Hid (Blk w1 w.heap.size 24 #[.slice none 0 0]) := hide (by rw [← hw1]; exact Blk.new _ _ _)
  have K51 := hide (check51 c A cc ds w1 (hS.bel hb1) hl hc hd)
  have K52 := hide (fun W (h : Below w.heap.size w W) => level52 c A cc ds W (hS.bel h) hl hd hc.1)
  have K53 := hide (fun n W (h : Below w.heap.size w W) hn => given53 A cc ds n W (hS.bel h) hl hd hn)
  have KI := hide (fun (n : Int) W p q (h : Below w.heap.size w W) (X : Blk W p 24 #[.slice A ds.length cc]) (Y : Blk W q 3 #[.int .i64 n]) => wanting67_iter w W A cc ds n hS h p q X Y)
  have HG := hide (fun k (n : Int) hn => given_bound (m := 1099511627776) (ds := ds.take k) (fun d h => hd d (List.mem_of_mem_take h)) (n := n) hn)
  obtain ⟨i0, hi, hz0, hz1, hz2⟩ := info_parts Try_infoI
  have HI := hide hi
  have HB1 := hide hb1
  have HS := hide hS
  have hds := hd
  clear hb1 hS hd hi
  refine (callsIn_wide (n := 9)).1 (callsIn_of_wp_marks Tryz.func27 rfl trivial ?_ rfl)
  simp only [Tryz.ntmps27]
  simp only [List.size_toArray, List.length_cons, List.length_nil, Nat.reduceAdd, Nat.reduceSub, Array.replicate_succ, Array.replicate_zero, List.push_toArray, List.append_toArray, List.nil_append, List.cons_append]
  gi_wp2_with fail
  refine (callsIn_wide.2 K51.out).mono ?_
  rintro e w2 ⟨rfl, hb⟩
  have HB2 := hide (kcall HB1.out hb)
  have HX2 := hide (HX1.out.bel hb)
  clear hb K51 HX1 HB1 hw1
  gi_wp2_with fail
  refine (callsIn_wide.2 (K52.out _ HB2.out)).mono ?_
  rintro e w3 ⟨⟨n, rfl, hn0, hn1, hng⟩, hb⟩
  have HB3 := hide (kcall HB2.out hb)
  have HX3 := hide (HX2.out.bel hb)
  have h3z := HB3.out.size
  have h3l := HX3.out.lt
  clear hb K52 HX2 HB2
  obtain ⟨DM, hDM⟩ : ∃ DM, (ds.map fun d => min d n) = DM := ⟨_, rfl⟩
  have hDl : DM.length = ds.length := by rw [← hDM]; simp
  have HDG := hide (fun (k : Nat) (x : Int) (h : ds[k]? = some x) => show DM[k]? = some (min x n) by rw [← hDM, List.getElem?_map, h]; rfl)
  have HDV := hide (DivG.start (n := n) hng)
  rw [hDM] at HDV
  clear hDM
  gi_wp2
  gi_loopw [8, 22] (fun _ i wr => ∃ (k : Nat) (v : Value), k ≤ ds.length ∧ i = .int .i64 k ∧ Hid (Blk wr w.heap.size 24 #[v]) ∧ Hid (OwnL ic 1 3 wr (w.heap.size + 1) v (DM.take k)) ∧ Hid (Below w.heap.size w wr)) (fun _ i _ => ds.length - (nI i).toNat)
  case atStart => exact ⟨0, _, Nat.zero_le _, rfl, HX3, OwnL.nil _ _ _ _ _, HB3⟩
  case round =>
    clear HX3 HB3 h3z h3l
    obtain ⟨k, v, hk, rfl, HX, HO, HB⟩ := hrel
    have hxl := HX.out.lt
    have hbz := HB.out.size
    by_cases hlt : k < ds.length
    · obtain ⟨x, b, off, hx, hdr, rfl, hbw, c1⟩ := Sl.ic_at (HS.out.bel HB.out) hlt
      have kz : (k : Int) < (ds.length : Int) := by omega
      have HNX := hide (take_of_get (HDG.out k x hx))
      have hml : (DM.take k).length = k := by rw [List.length_take]; omega
      have HML := hide hml
      have x0 := HX.out.cell (v := v) 0 rfl
      have hmn : (if n < x then n else x) = min x n := by omega
      clear hx hdr hml
      gi_wp2_with (gi_at_builtin; refine wpListIn_append rfl (.tmp 26) (.tmp 30) 24 rfl rfl rfl (run_extend (f := ic) (base := w.heap.size + 1) (l1 := DM.take k) (l2 := [min x n]) Tryz.underlying24 HI.out hz0 hz1 hz2 rfl (by decide) (HO.out.alloc _) (Sl.one (Blk.new _ _ _) (by first | rfl | (rw [hmn]; rfl)) rfl (by decide) (by decide)) (ic_ones _) ?_ ?_ ?_) ?_)
      · have := HML.out; simp only [List.length_singleton]; unfold maxLen; omega
      · have := HML.out; simp only [List.length_singleton]; omega
      · simp; omega
      · intro v9 w9 hO9 hg9 hat9
        rw [← HNX.out] at hO9
        obtain ⟨A9, c9, rfl, hS9⟩ := hO9.sl
        clear hS9
        generalize (DM.take (k + 1)).length = m9 at *
        have hX9 : Blk w9 w.heap.size 24 #[v] := (HX.out.alloc _).grown hg9 (fun e => by have := (HO.out.blk e.symm).1; omega)
        have z9 := hX9.thaw 0
        have p9 := hX9.cell (v := v) 0 rfl
        have hl9 := hX9.lt
        have hB9 : Below w.heap.size w w9 := Below.grown (kalloc HB.out _) hg9 (by simp; omega) (fun g hg => by have := (HO.out.blk hg).1; omega)
        have HO9 := hide (hO9.keep (w' := w9.setCell ⟨w.heap.size, 0, none⟩ (.slice A9 m9 c9)) (fun g hg => Below.heap_setCell _ _ _ _ (by have := (hO9.blk hg).1; dsimp only; omega)))
        have HX9 := hide (hX9.set 0 (.slice A9 m9 c9) (cs' := #[.slice A9 m9 c9]) rfl)
        have HB9 := hide (hB9.setCell (p := ⟨w.heap.size, 0, none⟩) (Nat.le_refl _) (.slice A9 m9 c9))
        clear hO9 hg9 hat9 hX9 hB9 HX HO HB x0
        gi_wp2
        go_roundw
        case rel => exact ⟨k + 1, _, by omega, by go_num, HX9, HO9, HB9⟩
        case measure => simp [nI]; omega
    · obtain rfl : k = ds.length := by omega
      rw [List.take_of_length_le (by omega)] at HO
      have hgb := HG.out ds.length n hn0
      rw [List.take_length] at hgb
      have hcg : IntKind.i64.wrap (c - givenP ds n) = c - givenP ds n := by rw [IntKind.wrap_i64]; omega
      gi_wp2_with fail
      refine (callsIn_wide.2 (K53.out n _ HB.out hn0)).mono ?_
      rintro e w4 ⟨rfl, rfl⟩
      have hvw : ∀ g, v.ownBlock = some g → w.heap.size + 1 ≤ g ∧ g < wr.heap.size := fun g hg => by
        obtain ⟨h1, h2, _⟩ := HO.out.blk hg
        exact ⟨h1, h2⟩
      obtain ⟨w5, hw5⟩ : ∃ w5, wr.alloc (.cells #[.int .i64 (c - givenP ds n)] 3) = w5 := ⟨_, rfl⟩
      have X5 : Blk w5 w.heap.size 24 #[v] := by rw [← hw5]; exact HX.out.alloc _
      have Y5 : Blk w5 wr.heap.size 3 #[.int .i64 (c - givenP ds n)] := by rw [← hw5]; exact Blk.new _ _ _
      have O5 : OwnL ic 1 3 w5 (w.heap.size + 1) v DM := by rw [← hw5]; exact HO.out.alloc _
      have B5 : Below w.heap.size w w5 := by rw [← hw5]; exact kalloc HB.out _
      have z5 : w5.heap.size = wr.heap.size + 1 := by rw [← hw5]; simp
      have W5 := hide (And.intro X5 (And.intro Y5 (And.intro O5 B5)))
      clear X5 Y5 O5 B5 HX HO HB hgb HG K53
      gi_wp2_with fail
      refine (callsIn_wide.2 (wanting54 A cc ds.length n w5)).mono ?_
      rintro e w6 ⟨rfl, hw6⟩
      obtain ⟨X5, Y5, O5, B5⟩ := W5.out
      have P6 : Blk w6 w5.heap.size 24 #[.slice A ds.length cc] := by rw [hw6]; exact (Blk.new _ _ _).alloc _
      have Q6 : Blk w6 (w5.heap.size + 1) 3 #[.int .i64 n] := by rw [hw6]; exact Blk.new1 _ _ _ _
      have X6 : Blk w6 w.heap.size 24 #[v] := by rw [hw6]; exact (X5.alloc _).alloc _
      have Y6 : Blk w6 wr.heap.size 3 #[.int .i64 (c - givenP ds n)] := by rw [hw6]; exact (Y5.alloc _).alloc _
      have O6 : OwnL ic 1 3 w6 (w.heap.size + 1) v DM := by rw [hw6]; exact (O5.alloc _).alloc _
      have B6 : Below w.heap.size w w6 := by rw [hw6]; exact kalloc (kalloc B5 _) _
      have z6 : w6.heap.size = w5.heap.size + 2 := by rw [hw6]; simp
      have hit := KI.out n w6 w5.heap.size (w5.heap.size + 1) B6 P6 Q6
      rw [z5] at hit z6
      have hv6 : ∀ g, v.ownBlock = some g → g < w6.heap.size := fun g hg => by have := hvw g hg; omega
      have H0 := hide (show DvI w w6 wr.heap.size v c ds n ((wantP ds n).drop 0) (fun _ => False) w6 from ⟨fun _ h => h.elim, Nat.le_refl _, B6, DM, _, HDV.out, X6, Y6, O6⟩)
      clear hw6 X5 Y5 O5 B5 P6 Q6 X6 Y6 O6 B6 W5 HDV KI hcg
      gi_wp2
      refine wpIn_range1 (gf := 67) (lb := #[.pointer (some ⟨wr.heap.size + 1, 0, none⟩), .pointer (some ⟨wr.heap.size + 1 + 1, 0, none⟩)]) rfl (enters_of Tryz.func67 (by kernel_rfl) rfl) (fun i : Nat => Value.int .i64 (i : Int)) hit (Nat.le_refl _) (fun b hb => ⟨by rcases hb with h | h | h <;> omega, rfl⟩) 10
        (fun k O X => DvI w w6 wr.heap.size v c ds n ((wantP ds n).drop k) O X)
        (fun cd O X => cd = .exit 2 ∧ ∃ k, DvI w w6 wr.heap.size v c ds n ((wantP ds n).drop k) O X)
        ?_ ?_ H0.out ?assign ?body ?done ?stop
      · exact fun _ _ _ _ _ h st => h.stable (by omega) (by omega) hv6 st
      · rintro _ _ _ _ _ ⟨h0, k, h⟩ st
        exact ⟨h0, k, h.stable (by omega) (by omega) hv6 st⟩
      case assign =>
        intro lp x W K hK
        gi_wp2
        exact hK
      case body =>
        rintro lp k i O X hxi ⟨h1, h2, h3, L, u, h4, h5, h6, h7⟩ hO hz
        have c0 := h5.cell (v := v) 0 rfl
        have c1 := h6.cell (v := .int .i64 u) 0 rfl
        have l0 := h5.lt
        have l1 := h6.lt
        have t1 := h6.thaw 0
        have H1 := hide h1
        have HO := hide hO
        by_cases hu : u = 0
        · have g0 : (u == 0) = true := by simpa using hu
          have HF := hide (show DvI w w6 wr.heap.size v c ds n ((wantP ds n).drop k) O X from ⟨h1, h2, h3, L, u, h4, h5, h6, h7⟩)
          clear hu hit h1 hO h3 h4 h5 h6 h7
          gi_wp2
          exact ⟨Kept.refl _ _, rfl, k, HF.out⟩
        · have g0 : (u == 0) = false := by simpa using hu
          have hdr := drop_of_get hxi
          rw [hdr] at h4
          have hLi := h4.rest i (by simp)
          have hnd := want_nodup ds n
          have hni : i ∉ (wantP ds n).drop (k + 1) := by
            have := hnd.sublist (List.drop_sublist k (wantP ds n))
            rw [hdr] at this
            exact (List.nodup_cons.1 this).1
          have H4 := hide (h4.step hni (want_mem (List.mem_of_getElem? hxi)) hu)
          have hup := h4.pos
          have hus := h4.sum
          obtain ⟨g, cap, rfl, hg1, hg2, hcap, hcapm, hfz, hcc, hput⟩ := own_at h7 hLi
          have hgw : g < wr.heap.size := (hvw g rfl).2
          have p0 := hcc 0 _ (show (ic n)[0]? = some (.int .i64 n) from rfl)
          have z0 := hfz (i * 1)
          have hil : (i : Int) < (L.length : Int) := by have := (List.getElem?_eq_some_iff.1 hLi).1; omega
          have hwn : IntKind.i64.wrap (n + 1) = n + 1 := by rw [IntKind.wrap_i64]; omega
          have hus2 := divG_le h4 (fun d h => (hds d h).1) hn0
          have hwu : IntKind.i64.wrap (u - 1) = u - 1 := by rw [IntKind.wrap_i64]; omega
          have HP := hide hput
          have HH := hide (And.intro h3 (And.intro h5 h6))
          simp only [Nat.mul_one, Nat.add_zero] at p0 z0
          clear hu hit h1 hO h3 h4 h5 h6 h7 hdr hLi hnd hni hput hcc hfz hxi hus
          gi_wp2
          obtain ⟨h3, h5, h6⟩ := HH.out
          refine ⟨((Kept.refl _ _).setCell _ (by rintro (h | h); (have := H1.out _ h; dsimp only at this; omega); (dsimp only at h; omega))).setCell _ (by rintro (h | h); (have := H1.out _ h; dsimp only at this; omega); (dsimp only at h; omega)), H1.out, by simp [World.setCell]; omega, (h3.setCell (by dsimp only; omega) _).setCell (by dsimp only; omega) _, _, _, H4.out, ?_, ?_, ?_⟩
          · exact (h5.far _ _ (by dsimp only; omega)).far _ _ (by dsimp only; omega)
          · exact (h6.far _ _ (by dsimp only; omega)).set 0 _ rfl
          · exact HP.out 0 (.int .i64 (n + 1)) (n + 1) _ (by simp only [Nat.mul_one, Nat.add_zero]; exact Below.heap_setCell _ _ _ _ (by dsimp only; omega)) (by decide) rfl
      case done =>
        rintro O X ⟨h1, h2, h3, L, u, h4, h5, h6, h7⟩ hO hD hOD hz
        have HDP := hide (h4.done hn0)
        obtain ⟨A9, c9, rfl, hS9⟩ := h7.sl
        have c0 := h5.cell (v := .slice A9 L.length c9) 0 rfl
        have t0 := h5.thaw 0
        have l0 := h5.lt
        have hDf : (X.setCell ⟨w.heap.size, 0, none⟩ (.slice A9 L.length c9)).heap[w6.heap.size]? = some (.deferred (some [])) := set_other hD (by dsimp only; omega)
        have X9 := h5.set 0 (.slice A9 L.length c9) (cs' := #[.slice A9 L.length c9]) rfl
        have gg : Blk ((X.setCell ⟨w.heap.size, 0, none⟩ (.slice A9 L.length c9)).putObj w6.heap.size (.deferred none)) w.heap.size 24 #[.slice A9 L.length c9] := ⟨by simp only [World.putObj_size]; exact X9.lt, (World.putObj_heap_other (by omega)).trans X9.at_⟩
        have O9 : OwnL ic 1 3 ((X.setCell ⟨w.heap.size, 0, none⟩ (.slice A9 L.length c9)).putObj w6.heap.size (.deferred none)) (w.heap.size + 1) (.slice A9 L.length c9) L := h7.keep fun g hg => (World.putObj_heap_other (by have := hv6 g hg; omega)).trans (Below.heap_setCell _ _ _ _ (by have := (hvw g hg).1; dsimp only; omega))
        obtain ⟨A8, c8, e8, hS8⟩ := O9.sl
        cases e8
        have HF := hide (below_put (h3.setCell (p := ⟨w.heap.size, 0, none⟩) (Nat.le_refl _) (.slice A9 L.length c9)) (.deferred none) (show w.heap.size ≤ w6.heap.size by omega))
        have p0 := gg.cell (v := .slice A9 L.length c9) 0 rfl
        have HP0 := hide p0
        have HDF := hide hDf
        have HS8 := hide hS8
        clear hit hDf X9 gg O9 hS8 hS9 hD h3 h4 h5 h6 h7 H0 p0 hO h1
        gi_wp2
        exact leaves_mark1 (v := .tuple #[.slice A9 L.length c9, .int .i64 0]) HDF.out (by simp [results, Tryz.results27, go_sem, HP0.out]) ⟨_, _, L, rfl, HS8.out, HDP.out, HF.out⟩
      case stop =>
        rintro cd O X ⟨rfl, k, h1, h2, h3, L, u, h4, h5, h6, h7⟩ hO hD hOD hz
        have HDP := hide (h4.done hn0)
        obtain ⟨A9, c9, rfl, hS9⟩ := h7.sl
        have c0 := h5.cell (v := .slice A9 L.length c9) 0 rfl
        have t0 := h5.thaw 0
        have l0 := h5.lt
        have hDf : (X.setCell ⟨w.heap.size, 0, none⟩ (.slice A9 L.length c9)).heap[w6.heap.size]? = some (.deferred (some [])) := set_other hD (by dsimp only; omega)
        have X9 := h5.set 0 (.slice A9 L.length c9) (cs' := #[.slice A9 L.length c9]) rfl
        have gg : Blk ((X.setCell ⟨w.heap.size, 0, none⟩ (.slice A9 L.length c9)).putObj w6.heap.size (.deferred none)) w.heap.size 24 #[.slice A9 L.length c9] := ⟨by simp only [World.putObj_size]; exact X9.lt, (World.putObj_heap_other (by omega)).trans X9.at_⟩
        have O9 : OwnL ic 1 3 ((X.setCell ⟨w.heap.size, 0, none⟩ (.slice A9 L.length c9)).putObj w6.heap.size (.deferred none)) (w.heap.size + 1) (.slice A9 L.length c9) L := h7.keep fun g hg => (World.putObj_heap_other (by have := hv6 g hg; omega)).trans (Below.heap_setCell _ _ _ _ (by have := (hvw g hg).1; dsimp only; omega))
        obtain ⟨A8, c8, e8, hS8⟩ := O9.sl
        cases e8
        have HF := hide (below_put (h3.setCell (p := ⟨w.heap.size, 0, none⟩) (Nat.le_refl _) (.slice A9 L.length c9)) (.deferred none) (show w.heap.size ≤ w6.heap.size by omega))
        have p0 := gg.cell (v := .slice A9 L.length c9) 0 rfl
        have HP0 := hide p0
        have HDF := hide hDf
        have HS8 := hide hS8
        clear hit hDf X9 gg O9 hS8 hS9 hD h3 h4 h5 h6 h7 H0 p0 hO h1
        gi_wp2
        exact leaves_mark1 (v := .tuple #[.slice A9 L.length c9, .int .i64 0]) HDF.out (by simp [results, Tryz.results27, go_sem, HP0.out]) ⟨_, _, L, rfl, HS8.out, HDP.out, HF.out⟩
end Go.Proofs.YtnngemgfochodaaGreat
