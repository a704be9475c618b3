/-
  queue: tasks behind pointers; which one is done first.
  queue: which of two tasks is first; which task is not to be worked on; the first one of some.
  queue: the first of some tasks; the first one that is not to be worked on; a copy of a row.
  queue: a copy of a row of tasks; the first one that is not to be worked on.
  queue: the tasks that are to be worked on (slices.DeleteFunc at pointers).
  queue: the first of those that are to be worked on is the best one.
-/
import Derived.Test.YtnngemgfochodaaGreatTM9
import Derived.Test.YtnngemgfochodaaGreatClear
namespace Go.Proofs.YtnngemgfochodaaGreat.J
open Go.Proofs.YtnngemgfochodaaGreat
open Go.RowKit Go.Mine Go.Mine.Q
def pC (a : Nat) : List Value := [.pointer (some ⟨a, 0, none⟩)]
def tkC (x : Tk) : Array Value := #[.int .i64 x.j.no, .int .i64 x.j.ready, .int .i64 x.j.due, .int .i64 x.j.need, .bool x.j.alt, .int .i64 x.left]
def cmpI (x y : Int) : Int := if x < y then -1 else if y < x then 1 else 0
def befI (x y : Tk) : Int := if cmpI x.j.due y.j.due ≠ 0 then cmpI x.j.due y.j.due else cmpI x.j.no y.j.no
theorem nan93 (x : Int) (w : World) : Calls Tryz.prog 50 #[.int .i64 x] w fun e w' => e = .returned (.bool false) ∧ w = w' := by
  go_enter Tryz.func50, Tryz.ntmps50
  go_wp2
  go_ret
  exact ⟨ret_bool (by simp), rfl⟩
theorem compare75 (x y : Int) (w : World) : Calls Tryz.prog 24 #[.int .i64 x, .int .i64 y] w fun e w' => e = .returned (.int .i64 (cmpI x y)) ∧ w = w' := by
  have KX := hide (fun w => nan93 x w)
  have KY := hide (fun w => nan93 y w)
  by_cases h1 : x < y
  · have g1 : decide (x < y) = true := decide_eq_true h1
    have HE := hide (show cmpI x y = -1 by unfold cmpI; rw [if_pos h1])
    clear h1
    go_enter Tryz.func24, Tryz.ntmps24
    go_wp2_with (go_at_call 50; first | (with_reducible refine (KX.out _).mono ?_; rintro e w' ⟨rfl, rfl⟩) | (with_reducible refine (KY.out _).mono ?_; rintro e w' ⟨rfl, rfl⟩))
    go_ret
    exact ⟨ret_int HE.out.symm, rfl⟩
  · have g1 : decide (x < y) = false := decide_eq_false h1
    by_cases h2 : y < x
    · have g2 : decide (y < x) = true := decide_eq_true h2
      have HE := hide (show cmpI x y = 1 by unfold cmpI; rw [if_neg h1, if_pos h2])
      clear h1 h2
      go_enter Tryz.func24, Tryz.ntmps24
      go_wp2_with (go_at_call 50; first | (with_reducible refine (KX.out _).mono ?_; rintro e w' ⟨rfl, rfl⟩) | (with_reducible refine (KY.out _).mono ?_; rintro e w' ⟨rfl, rfl⟩))
      go_ret
      exact ⟨ret_int HE.out.symm, rfl⟩
    · have g2 : decide (y < x) = false := decide_eq_false h2
      have HE := hide (show cmpI x y = 0 by unfold cmpI; rw [if_neg h1, if_neg h2])
      clear h1 h2
      go_enter Tryz.func24, Tryz.ntmps24
      go_wp2_with (go_at_call 50; first | (with_reducible refine (KX.out _).mono ?_; rintro e w' ⟨rfl, rfl⟩) | (with_reducible refine (KY.out _).mono ?_; rintro e w' ⟨rfl, rfl⟩))
      go_ret
      exact ⟨ret_int HE.out.symm, rfl⟩
set_option maxHeartbeats 2000000 in
theorem or74 (A : Option Addr) (c : Nat) (x y : Int) (w : World) (hS : Sl ic 1 w A c [x, y]) : Calls Tryz.prog 86 #[.slice A 2 c] w fun e w' => e = .returned (.int .i64 (if x ≠ 0 then x else y)) ∧ w = w' := by
  have hc := hS.max
  have hlc := hS.le
  have HE : ∀ ls : List Int, ls = [x, y] → Hid ((if x ≠ 0 then x else y) = (ls.find? (fun z => z != 0)).getD 0) := fun ls h => hide (by
    subst h
    by_cases h1 : x = 0
    · subst h1
      by_cases h2 : y = 0
      · subst h2; rfl
      · simp [h2]
    · simp [h1])
  obtain ⟨ls, hls⟩ : ∃ ls, ls = [x, y] := ⟨_, rfl⟩
  have HQ := HE ls hls
  have hl2 : ls.length = 2 := by rw [hls]; rfl
  rw [← hls] at hS hlc
  generalize (if x ≠ 0 then x else y) = R at HQ ⊢
  have HL2 := hide hl2
  rw [hl2] at hlc
  clear HE hls hl2
  go_enter Tryz.func86, Tryz.ntmps86
  go_wp2
  go_loop [5, 8] (fun _ i => ∃ k : Nat, k ≤ 2 ∧ i = .int .i64 k ∧ Hid (R = ((ls.drop k).find? (fun z => z != 0)).getD 0)) (fun _ i => 2 - (nI i).toNat)
  case atStart => exact ⟨0, by omega, rfl, HQ⟩
  case round =>
    obtain ⟨k, hk, rfl, HR⟩ := hrel
    by_cases hlt : k < 2
    · obtain ⟨z, b, off, hz, hdr, rfl, hbw, c0⟩ := Sl.ic_at hS (show k < ls.length by rw [HL2.out]; exact hlt)
      have hq := HR.out
      rw [hdr, List.find?_cons] at hq
      have kz : (k : Int) < 2 := by omega
      clear hz hdr HR HQ hS
      cases h1 : (z != 0)
      · rw [h1] at hq
        have H := hide hq
        clear hq
        go_wp2
        go_round
        case rel => exact ⟨k + 1, by omega, by go_num, H⟩
        case measure => simp [nI]; omega
      · rw [h1] at hq
        have H := hide hq
        clear hq
        go_wp2
        go_ret
        exact ⟨ret_int H.out.symm, rfl⟩
    · have hq := HR.out
      rw [List.drop_of_length_le (by rw [HL2.out]; omega)] at hq
      have H := hide hq
      clear hq HR HQ
      go_wp2
      go_ret
      exact ⟨ret_int H.out.symm, rfl⟩
end Go.Proofs.YtnngemgfochodaaGreat.J
namespace Go.Proofs.YtnngemgfochodaaGreat.J
open Go.Proofs.YtnngemgfochodaaGreat
open Go.RowKit Go.Mine Go.Mine.Q
theorem bsl_blk2 (x y : Int) (w : World) : Sl ic 1 (w.alloc (.cells #[.int .i64 x, .int .i64 y] 3)) (some ⟨w.heap.size, 0, none⟩) 2 [x, y] :=
  ⟨by simp, by decide, by intro z hz; rfl, fun _ => ⟨w.heap.size, 0, rfl, by simp, fun i v hv => by
    have h := (Blk.new w #[.int .i64 x, .int .i64 y] 3).at_
    simp only [World.cell?, h, Nat.zero_add]
    simpa [ic] using hv⟩⟩
set_option maxRecDepth 100000 in
set_option maxHeartbeats 4000000 in
theorem before72 (a b : Nat) (x y : Tk) (w : World) (hA : Blk w a 110 (tkC x)) (hB : Blk w b 110 (tkC y)) :
    Calls Tryz.prog 77 #[.pointer (some ⟨a, 0, none⟩), .pointer (some ⟨b, 0, none⟩)] w fun e w' => e = .returned (.int .i64 (befI x y)) ∧ Below w.heap.size w w' := by
  have HE := hide (show (if cmpI x.j.due y.j.due ≠ 0 then cmpI x.j.due y.j.due else cmpI x.j.no y.j.no) = befI x y from rfl)
  have K1 := hide ((compare75 x.j.due y.j.due w.drew).mono fun e w' (h : e = .returned (.int .i64 (cmpI x.j.due y.j.due)) ∧ w.drew = w') => And.intro h.1 h.2.symm)
  have K2 := hide ((compare75 x.j.no y.j.no w.drew).mono fun e w' (h : e = .returned (.int .i64 (cmpI x.j.no y.j.no)) ∧ w.drew = w') => And.intro h.1 h.2.symm)
  generalize cmpI x.j.due y.j.due = r1 at *
  generalize cmpI x.j.no y.j.no = r2 at *
  have K3 := hide (or74 (some ⟨w.heap.size, 0, none⟩) 2 r1 r2 (w.drew.alloc (.cells #[.int .i64 r1, .int .i64 r2] 3)) (by
    have h := bsl_blk2 r1 r2 w.drew
    exact h))
  generalize befI x y = R at HE ⊢
  generalize (if r1 ≠ 0 then r1 else r2) = q at K3 HE
  have a0 := hA.cell (v := .int .i64 x.j.no) 0 rfl
  have a2 := hA.cell (v := .int .i64 x.j.due) 2 rfl
  have al := hA.lt
  have b0 := hB.cell (v := .int .i64 y.j.no) 0 rfl
  have b2 := hB.cell (v := .int .i64 y.j.due) 2 rfl
  have bl := hB.lt
  clear hA hB
  go_enter Tryz.func77, Tryz.ntmps77
  go_wp2_with fail
  refine wp_still_tail 22 (by kernel_rfl) (by kernel_rfl) ?_
  simp only [List.take_succ_cons, List.take_zero, List.drop_succ_cons, List.drop_zero]
  repeat (first | ((with_reducible refine wpStill_step (fun K hK => ?_)); go_simp; (try go_bits); (with_reducible refine hK _ ?_); clear hK K) | ((with_reducible refine wpStill_step (fun K hK => ?_)); go_simp; with_reducible refine ⟨_, K1.out, ?_⟩; (with_reducible refine hK _ ?_); clear hK K) | ((with_reducible refine wpStill_step (fun K hK => ?_)); go_simp; with_reducible refine ⟨_, K2.out, ?_⟩; (with_reducible refine hK _ ?_); clear hK K))
  (with_reducible refine wpStill_nil ?_)
  go_wp2_with fail
  refine K3.out.mono ?_
  rintro e w' ⟨rfl, rfl⟩
  go_wp2
  go_ret
  exact ⟨ret_int HE.out, (kalloc (Below.refl _ _) _).drew⟩
/-- a task that is not to be worked on -/
def notNow (t : Int) (x : Tk) : Bool := decide (t < x.j.ready) || (x.left == 0)
set_option maxRecDepth 100000 in
set_option maxHeartbeats 2000000 in
theorem not70 (a p : Nat) (x : Tk) (t : Int) (w : World) (hA : Blk w a 110 (tkC x)) (hP : Blk w p 3 #[.int .i64 t]) :
    Calls Tryz.prog 75 #[.pointer (some ⟨a, 0, none⟩), .pointer (some ⟨p, 0, none⟩)] w fun e w' => e = .returned (.bool (notNow t x)) ∧ Below w.heap.size w w' := by
  have HE := (show notNow t x = (decide (t < x.j.ready) || (x.left == 0)) from rfl)
  generalize notNow t x = R at HE ⊢
  have a1 := hA.cell (v := .int .i64 x.j.ready) 1 rfl
  have a5 := hA.cell (v := .int .i64 x.left) 5 rfl
  have al := hA.lt
  have b0 := hP.cell (v := .int .i64 t) 0 rfl
  have bl := hP.lt
  clear hA hP
  cases g1 : decide (t < x.j.ready)
  all_goals
    rw [g1] at HE
    have HE := hide HE
    go_enter Tryz.func75, Tryz.ntmps75
    go_wp2_with fail
    refine wp_still_all (by kernel_rfl) (by kernel_rfl) ?_
    repeat (first | ((with_reducible refine wpStill_step (fun K hK => ?_)); go_simp; (try go_bits); (with_reducible refine hK _ ?_); clear hK K) | ((with_reducible refine wpStill_step (fun K hK => ?_)); go_simp; rw [if_neg (by simp [undef])]; (with_reducible refine hK _ ?_); clear hK K))
    (with_reducible refine wpStill_nil ?_)
    go_wp2
    go_ret
    exact ⟨ret_bool (by rw [HE.out]; rfl), (Below.refl _ _).drew⟩
end Go.Proofs.YtnngemgfochodaaGreat.J
namespace Go.Proofs.YtnngemgfochodaaGreat.J
open Go.Proofs.YtnngemgfochodaaGreat
open Go.RowKit Go.Mine Go.Mine.Q
theorem Sl.pc_at {w : World} {A : Option Addr} {c : Nat} {l : List Nat} (h : Sl pC 1 w A c l) {k : Nat} (hk : k < l.length) : ∃ (x : Nat) (b off : Nat), l[k]? = some x ∧ l.drop k = x :: l.drop (k + 1) ∧ A = some ⟨b, off, none⟩ ∧ b < w.heap.size ∧ w.cell? ⟨b, off + k, none⟩ = some (.pointer (some ⟨x, 0, none⟩)) := by
  obtain ⟨x, b, off, hx, hd, rfl, hb, hc⟩ := h.at_ hk
  exact ⟨x, b, off, hx, hd, rfl, hb, by simpa using hc 0 _ rfl⟩
/-- tasks behind pointers -/
def Tks (w : World) (ps : List Nat) (val : Nat → Tk) : Prop := ∀ a ∈ ps, Blk w a 110 (tkC (val a))
theorem Tks.bel {w w' : World} {ps : List Nat} {val : Nat → Tk} (h : Tks w ps val) (hb : Below w.heap.size w w') : Tks w' ps val := fun a ha => (h a ha).bel hb
def minGo (val : Nat → Tk) : Nat → List Nat → Nat
  | m, [] => m
  | m, x :: r => minGo val (if befI (val x) (val m) < 0 then x else m) r
set_option maxRecDepth 100000 in
set_option maxHeartbeats 2000000 in
theorem min71 (A : Option Addr) (c : Nat) (ps : List Nat) (a0 : Nat) (r : List Nat) (val : Nat → Tk) (w : World) (hS : Sl pC 1 w A c ps) (has : ps = a0 :: r) (hT : Tks w ps val) :
    Calls Tryz.prog 76 #[.slice A ps.length c, .func (.func 77) #[] #[]] w fun e w' => e = .returned (.pointer (some ⟨minGo val a0 r, 0, none⟩)) ∧ Below w.heap.size w w' := by
  have hlc := hS.le
  have hc := hS.max
  have hl1 : 1 ≤ ps.length := by rw [has]; simp
  have g0 : decide ((ps.length : Int) < 1) = false := decide_eq_false (by omega)
  have HE := hide (show minGo val a0 r = minGo val a0 (ps.drop 1) by rw [has]; rfl)
  have HA0 := hide (show ps[0]? = some a0 by rw [has]; rfl)
  generalize minGo val a0 r = R at HE ⊢
  have HS := hide hS
  have HT := hide hT
  have HM0 := hide (show a0 ∈ ps by rw [has]; simp)
  clear hS hT has
  obtain ⟨x0, b0, off0, hx0, _, rfl, _, q0⟩ := Sl.pc_at HS.out (show 0 < ps.length by omega)
  obtain rfl : x0 = a0 := by rw [HA0.out] at hx0; exact (Option.some.inj hx0).symm
  have hl0 : (0 : Int) < (ps.length : Int) := by omega
  simp only [Nat.add_zero] at q0
  clear hx0 HA0
  go_enter Tryz.func76, Tryz.ntmps76
  go_wp2
  clear q0 g0
  go_loopw [5, 6] (fun m i wr => ∃ (k mm : Nat), 1 ≤ k ∧ k ≤ ps.length ∧ i = .int .i64 k ∧ m = .pointer (some ⟨mm, 0, none⟩) ∧ Hid (mm ∈ ps) ∧ Hid (R = minGo val mm (ps.drop k)) ∧ Hid (Below w.heap.size w wr)) (fun _ i _ => ps.length - (nI i).toNat)
  case atStart => exact ⟨1, x0, Nat.le_refl _, hl1, rfl, rfl, HM0, HE, Below.refl _ _⟩
  case round =>
    obtain ⟨k, mm, hk1, hk, rfl, rfl, HM, HQ, HB⟩ := hrel
    by_cases hlt : k < ps.length
    · obtain ⟨x, b, off, hx, hdr, hA, hbw, q0⟩ := Sl.pc_at (HS.out.bel HB.out) hlt
      cases hA
      have hq := HQ.out
      rw [hdr, minGo] at hq
      have kz : (k : Int) < (ps.length : Int) := by omega
      have hxm := List.mem_of_getElem? hx
      have hTw := HT.out.bel HB.out
      have K := hide (before72 x mm (val x) (val mm) wr (hTw x hxm) (hTw mm HM.out))
      have HXM := hide hxm
      have HX := hide hx
      generalize hv : befI (val x) (val mm) = v at *
      clear hx hdr hxm hTw HQ hv
      cases g1 : decide (v < 0)
      · rw [if_neg (of_decide_eq_false g1)] at hq
        have H := hide hq
        clear hq
        go_wp2_with fail
        refine K.out.mono ?_
        rintro e w2 ⟨rfl, hb⟩
        have HB2 := hide (kcall HB.out hb)
        clear hb K HB q0
        go_wp2
        go_roundw
        case rel => exact ⟨k + 1, mm, by omega, by omega, by go_num, rfl, HM, H, HB2⟩
        case measure => simp [nI]; omega
      · rw [if_pos (of_decide_eq_true g1)] at hq
        have H := hide hq
        clear hq
        go_wp2_with fail
        refine K.out.mono ?_
        rintro e w2 ⟨rfl, hb⟩
        have HB2 := hide (kcall HB.out hb)
        clear hb K HB q0
        obtain ⟨x', b', off', hx', _, hA', hbw', q0⟩ := Sl.pc_at (HS.out.bel HB2.out) hlt
        cases hA'
        obtain rfl : x' = x := by rw [HX.out] at hx'; exact (Option.some.inj hx').symm
        clear hx' HX
        go_wp2
        go_roundw
        case rel => exact ⟨k + 1, x', by omega, by omega, by go_num, rfl, HXM, H, HB2⟩
        case measure => simp [nI]; omega
    · have hq := HQ.out
      rw [List.drop_of_length_le (by omega), minGo] at hq
      have H := hide hq
      clear hq HQ
      go_wp2
      go_ret
      exact ⟨by rw [H.out]; rfl, HB.out⟩
end Go.Proofs.YtnngemgfochodaaGreat.J
namespace Go.Proofs.YtnngemgfochodaaGreat.J
open Go.Proofs.YtnngemgfochodaaGreat
open Go.RowKit Go.Mine Go.Mine.Q
theorem Try_info108 : (Tryz.prog.info? 108).map (fun i => (i.zero, i.size, i.bytes)) = some (some (.pointer none), 1, 8) := by kernel_rfl
theorem pc_one (n : Nat) : ∀ u ∈ pC n, u.oneCell' = true := by intro u hu; simp [pC] at hu; subst hu; rfl
set_option maxHeartbeats 1000000 in
theorem clone69 (A : Option Addr) (c : Nat) (l : List Nat) (w : World) (hS : Sl pC 1 w A c l) (hl : l.length ≤ 1000000) :
    Calls Tryz.prog 74 #[.slice A l.length c] w fun e w' => ∃ v, e = .returned v ∧ OwnL pC 1 108 w' w.heap.size v l ∧ Below w.heap.size w w' := by
  have hlc := hS.le
  have hc := hS.max
  obtain ⟨i0, hi, hz0, hz1, hz2⟩ := info_parts Try_info108
  have HI := hide hi
  clear hi
  have q23 : ∀ (w : World) (a : Option Addr) (n c n' c' : Nat), (binOp .eql 123 (.slice a n c) (.slice none n' c')).run Tryz.prog w = .ok (.bool a.isNone) w := fun w a n c n' c' => Lib.run_eql_slice_nil w _ _ a n c n' c' Tryz.underlying123
  rcases A with _ | ad
  · have hn : l = [] := by
      rcases Classical.em (l = []) with h | h
      · exact h
      · obtain ⟨b, off, hh, _⟩ := hS.cells h; cases hh
    subst hn
    go_enter Tryz.func74, Tryz.ntmps74
    go_wp2
    go_ret
    exact ⟨_, rfl, OwnL.nil _ _ _ _ _, Below.refl _ _⟩
  · have HS := hide (hS.alloc (.cells #[] 108))
    clear hS
    go_enter Tryz.func74, Tryz.ntmps74
    go_wp2_with (at_builtin; refine wpList_append rfl (.tmp 5) (.tmp 6) 123 rfl rfl rfl (run_extend (f := pC) (base := w.heap.size) (l1 := []) (l2 := l) Tryz.underlying123 HI.out hz0 hz1 hz2 rfl (by decide) (OwnL.fresh w (Nat.le_refl _)) HS.out (fun x _ => pc_one x) ?_ ?_ ?_) ?_)
    · simp only [List.length_nil, maxLen]; omega
    · simp only [List.length_nil]; omega
    · first | exact Nat.le_refl _ | simp
    · intro v' w' hO hg _
      have HO := hide hO
      have HB := hide (Below.grown (kalloc (Below.refl w.heap.size w) (.cells #[] 108)) hg (by simp) (fun k hk => by simp [Value.ownBlock] at hk; omega))
      clear hO hg
      go_wp2
      go_ret
      exact ⟨_, rfl, by simpa using HO.out, HB.out⟩
/-- the first one of which something holds -/
def ixP (q : Nat → Bool) : List Nat → Nat → Int
  | [], _ => -1
  | x :: l, n => if q x = true then (n : Int) else ixP q l (n + 1)
theorem ixP_cases (q : Nat → Bool) : ∀ (l : List Nat) (n : Nat), (ixP q l n = -1 ∧ ∀ x ∈ l, q x = false) ∨ ∃ F x M, l = F ++ x :: M ∧ ixP q l n = ((n + F.length : Nat) : Int) ∧ q x = true ∧ ∀ y ∈ F, q y = false
  | [], n => .inl ⟨rfl, by simp⟩
  | x :: l, n => by
    rw [ixP]
    by_cases h : q x = true
    · exact .inr ⟨[], x, l, rfl, by rw [if_pos h]; simp, h, by simp⟩
    · have h0 : q x = false := by simpa using h
      rw [if_neg h]
      rcases ixP_cases q l (n + 1) with ⟨a, b⟩ | ⟨F, y, M, a, b, c, d⟩
      · exact .inl ⟨a, by simpa using ⟨h0, b⟩⟩
      · refine .inr ⟨x :: F, y, M, by rw [a]; rfl, by rw [b]; congr 1; simp; omega, c, ?_⟩
        intro z hz
        rcases List.mem_cons.1 hz with rfl | hz
        · exact h0
        · exact d z hz
set_option maxRecDepth 100000 in
set_option maxHeartbeats 2000000 in
theorem index92 (A : Option Addr) (c : Nat) (ps : List Nat) (q : Nat → Bool) (p B : Nat) (w : World) (hS : Sl pC 1 w A c ps)
    (hB : B ≤ w.heap.size) (hK : ∀ a ∈ ps, ∀ W, Below B w W → Calls Tryz.prog 75 #[.pointer (some ⟨a, 0, none⟩), .pointer (some ⟨p, 0, none⟩)] W fun e w' => e = .returned (.bool (q a)) ∧ Below W.heap.size W w') :
    Calls Tryz.prog 85 #[.slice A ps.length c, .func (.func 75) #[] #[.pointer (some ⟨p, 0, none⟩)]] w fun e w' => e = .returned (.int .i64 (ixP q ps 0)) ∧ Below w.heap.size w w' := by
  have hlc := hS.le
  have hc := hS.max
  have HE := hide (show ixP q ps 0 = ixP q (ps.drop 0) 0 from rfl)
  generalize ixP q ps 0 = R at HE ⊢
  have HS := hide hS
  have HK := hide hK
  clear hS hK
  go_enter Tryz.func85, Tryz.ntmps85
  go_wp2
  go_loopw [5, 8] (fun _ i wr => ∃ k : Nat, k ≤ ps.length ∧ i = .int .i64 k ∧ Hid (R = ixP q (ps.drop k) k) ∧ Hid (Below w.heap.size w wr)) (fun _ i _ => ps.length - (nI i).toNat)
  case atStart => exact ⟨0, Nat.zero_le _, rfl, HE, Below.refl _ _⟩
  case round =>
    obtain ⟨k, hk, rfl, HQ, HB⟩ := hrel
    by_cases hlt : k < ps.length
    · obtain ⟨x, b, off, hx, hdr, rfl, hbw, q0⟩ := Sl.pc_at (HS.out.bel HB.out) hlt
      have hq := HQ.out
      rw [hdr, ixP] at hq
      have kz : (k : Int) < (ps.length : Int) := by omega
      have K := hide (HK.out x (List.mem_of_getElem? hx) wr (HB.out.mono hB))
      generalize q x = r at *
      clear hx hdr HQ
      cases r
      · rw [if_neg (by simp)] at hq
        have H := hide hq
        clear hq
        go_wp2_with fail
        refine K.out.mono ?_
        rintro e w2 ⟨rfl, hb⟩
        have HB2 := hide (kcall HB.out hb)
        clear hb K HB q0
        go_wp2
        go_roundw
        case rel => exact ⟨k + 1, by omega, by go_num, H, HB2⟩
        case measure => simp [nI]; omega
      · rw [if_pos rfl] at hq
        have H := hide hq
        clear hq
        go_wp2_with fail
        refine K.out.mono ?_
        rintro e w2 ⟨rfl, hb⟩
        have HB2 := hide (kcall HB.out hb)
        clear hb K HB q0
        go_wp2
        go_ret
        exact ⟨ret_int H.out.symm, HB2.out⟩
    · have hq := HQ.out
      rw [List.drop_of_length_le (by omega), ixP] at hq
      have H := hide hq
      clear hq HQ
      go_wp2
      go_ret
      exact ⟨ret_int H.out.symm, HB.out⟩
end Go.Proofs.YtnngemgfochodaaGreat.J
namespace Go.Proofs.YtnngemgfochodaaGreat.J
open Go.Proofs.YtnngemgfochodaaGreat
open Go.RowKit Go.Mine Go.Mine.Q
/-- what stands in the row while it is gone through -/
def kept (q : Nat → Bool) (ps : List Nat) (j : Nat) : List Nat := (ps.take j).filter fun a => !q a
structure DI (q : Nat → Bool) (ps : List Nat) (j : Nat) (xs M : List Nat) : Prop where
  is_ : xs = kept q ps j ++ M ++ ps.drop j
  pos : 0 < M.length
  len : (kept q ps j).length + M.length = j
theorem kept_next {q : Nat → Bool} {ps : List Nat} {j a : Nat} (h : ps[j]? = some a) : kept q ps (j + 1) = kept q ps j ++ (if q a = true then [] else [a]) := by
  unfold kept
  rw [take_of_get h, List.filter_append]
  cases hq : q a <;> simp [hq]
theorem drop_at {ps : List Nat} {j a : Nat} (h : ps[j]? = some a) : ps.drop j = a :: ps.drop (j + 1) := by
  obtain ⟨h1, h2⟩ := List.getElem?_eq_some_iff.1 h
  rw [List.drop_eq_getElem_cons h1, h2]
theorem DI.get {q : Nat → Bool} {ps xs M : List Nat} {j : Nat} (h : DI q ps j xs M) : xs[j]? = ps[j]? := by
  rw [h.is_, List.getElem?_append_right (by rw [List.length_append, h.len]; exact Nat.le_refl _), List.length_append, h.len, Nat.sub_self, List.getElem?_drop, Nat.add_zero]
theorem DI.length {q : Nat → Bool} {ps xs M : List Nat} {j : Nat} (h : DI q ps j xs M) (hj : j ≤ ps.length) : xs.length = ps.length := by
  rw [h.is_, List.length_append, List.length_append, h.len, List.length_drop]; omega
theorem DI.skip {q : Nat → Bool} {ps xs M : List Nat} {j a : Nat} (h : DI q ps j xs M) (ha : ps[j]? = some a) (hq : q a = true) : DI q ps (j + 1) xs (M ++ [a]) ∧ kept q ps (j + 1) = kept q ps j := by
  have hk : kept q ps (j + 1) = kept q ps j := by rw [kept_next ha, if_pos hq, List.append_nil]
  refine ⟨⟨?_, by simp, ?_⟩, hk⟩
  · rw [hk, h.is_, drop_at ha]; simp
  · rw [hk]; have := h.len; simp; omega
theorem DI.keep {q : Nat → Bool} {ps xs M : List Nat} {j a : Nat} (h : DI q ps j xs M) (ha : ps[j]? = some a) (hq : q a = false) : ∃ M', DI q ps (j + 1) (xs.set (kept q ps j).length a) M' ∧ (kept q ps (j + 1)).length = (kept q ps j).length + 1 := by
  have hk : kept q ps (j + 1) = kept q ps j ++ [a] := by rw [kept_next ha, if_neg (by simp [hq])]
  have hl := h.len
  have hp := h.pos
  rcases M with _ | ⟨m0, M0⟩
  · simp at hp
  · refine ⟨M0 ++ [a], ⟨?_, by simp, ?_⟩, by rw [hk]; simp⟩
    · rw [hk, h.is_, List.append_assoc, List.set_append_right _ _ (Nat.le_refl _), Nat.sub_self, drop_at ha]
      simp
    · rw [hk]; simp at hl ⊢; omega
theorem DI.start {q : Nat → Bool} {F M : List Nat} {x : Nat} (hx : q x = true) (hF : ∀ y ∈ F, q y = false) : DI q (F ++ x :: M) (F.length + 1) (F ++ x :: M) [x] ∧ kept q (F ++ x :: M) (F.length + 1) = F := by
  have hk : kept q (F ++ x :: M) (F.length + 1) = F := by
    unfold kept
    rw [show (F ++ x :: M).take (F.length + 1) = F ++ [x] by rw [List.take_append]; simp [List.take_of_length_le], List.filter_append]
    have h1 : F.filter (fun a => !q a) = F := List.filter_eq_self.2 fun y hy => by rw [hF y hy]; rfl
    rw [h1]; simp [hx]
  refine ⟨⟨?_, by simp, by rw [hk]; simp⟩, hk⟩
  rw [hk]
  simp
set_option maxRecDepth 100000 in
set_option maxHeartbeats 4000000 in
theorem delete68 (v : Value) (ps : List Nat) (q : Nat → Bool) (p B : Nat) (w : World) (hO : OwnL pC 1 108 w B v ps) (hB : B ≤ w.heap.size) (hl : ps.length ≤ 1000000)
    (hK : ∀ a ∈ ps, ∀ W, Below B w W → Calls Tryz.prog 75 #[.pointer (some ⟨a, 0, none⟩), .pointer (some ⟨p, 0, none⟩)] W fun e w' => e = .returned (.bool (q a)) ∧ Below W.heap.size W w') :
    Calls Tryz.prog 73 #[v, .func (.func 75) #[] #[.pointer (some ⟨p, 0, none⟩)]] w fun e w' => ∃ A c, e = .returned (.slice A (ps.filter fun a => !q a).length c) ∧ Sl pC 1 w' A c (ps.filter fun a => !q a) ∧ Below B w w' := by
  obtain ⟨A, c, rfl, hS⟩ := hO.sl
  have hlc := hS.le
  have hc := hS.max
  have K92 := hide (index92 A c ps q p B w hS hB hK)
  rcases ixP_cases q ps 0 with ⟨e1, hall⟩ | ⟨F, x, M, e0, e1, hx, hF⟩
  · rw [e1] at K92
    have hfil : (ps.filter fun a => !q a) = ps := List.filter_eq_self.2 fun y hy => by rw [hall y hy]; rfl
    rw [hfil]
    have HS := hide hS
    clear hO hK hall hfil e1 hS
    go_enter Tryz.func73, Tryz.ntmps73
    go_wp2_with fail
    refine K92.out.mono ?_
    rintro e w1 ⟨rfl, hb⟩
    have HB := hide hb
    clear hb K92
    go_wp2
    go_ret
    exact ⟨_, _, rfl, HS.out.bel HB.out, HB.out.mono hB⟩
  · rw [e1, Nat.zero_add] at K92
    obtain ⟨D0, k0⟩ := DI.start (M := M) hx hF
    rw [← e0] at D0 k0
    have HD0 := hide D0
    have HK0 := hide (show (kept q ps (F.length + 1)).length = F.length by rw [k0])
    have HK := hide hK
    have HO := hide hO
    have hFl : F.length < ps.length := by rw [e0]; simp
    have hne1 : ((F.length : Int) == -1) = false := beq_eq_false_iff_ne.2 (by omega)
    have HFE := hide (show (ps.filter fun a => !q a) = kept q ps ps.length by unfold kept; rw [List.take_length])
    rw [HFE.out]
    generalize F.length = i0 at *
    clear hO hK e0 e1 hx hF D0 k0 hS HFE
    go_enter Tryz.func73, Tryz.ntmps73
    go_wp2_with fail
    refine K92.out.mono ?_
    rintro e w1 ⟨rfl, hb⟩
    have HO1 := hide (HO.out.bel hb)
    have HB1 := hide (hb.mono hB)
    clear hb K92 HO
    go_wp2
    go_loopw [5, 6, 7] (fun s5 s6 _ wr => ∃ (i j : Nat) (xs M : List Nat), s5 = .int .i64 i ∧ s6 = .int .i64 j ∧ i < j ∧ j ≤ ps.length ∧ Hid ((kept q ps j).length = i) ∧ Hid (DI q ps j xs M) ∧ Hid (OwnL pC 1 108 wr B (.slice A ps.length c) xs) ∧ Hid (Below B w wr)) (fun _ s6 _ _ => ps.length - (nI s6).toNat)
    case atStart => exact ⟨i0, i0 + 1, ps, _, rfl, by go_num, by omega, by omega, HK0, HD0, HO1, HB1⟩
    case round =>
      clear HD0 HO1 HB1 HK0
      obtain ⟨i, j, xs, M, rfl, rfl, hij, hjn, HI, HD, HO, HBw⟩ := hrel
      have hxl : xs.length = ps.length := HD.out.length hjn
      have hsz := HBw.out.size
      by_cases hlt : j < ps.length
      · have jz : (j : Int) < (ps.length : Int) := by omega
        have iz : (i : Int) < (ps.length : Int) := by omega
        have hjw : IntKind.i64.wrap ((j : Int) + 1) = (j : Int) + 1 := by rw [IntKind.wrap_i64]; omega
        have hiw : IntKind.i64.wrap ((i : Int) + 1) = (i : Int) + 1 := by rw [IntKind.wrap_i64]; omega
        obtain ⟨a, ha⟩ : ∃ a, ps[j]? = some a := ⟨_, List.getElem?_eq_getElem hlt⟩
        have hxa : xs[j]? = some a := HD.out.get.trans ha
        obtain ⟨g, cap, hv, hg1, hg2, _, _, hfz, hcell, _⟩ := own_at HO.out hxa
        rw [hxl] at hv
        cases hv
        have q0 : wr.cell? ⟨g, j, none⟩ = some (.pointer (some ⟨a, 0, none⟩)) := by have := hcell 0 _ (show (pC a)[0]? = some (.pointer (some ⟨a, 0, none⟩)) from rfl); simpa using this
        have K := hide (HK.out a (List.mem_of_getElem? ha) wr HBw.out)
        have HA := hide ha
        cases hq : q a
        · rw [hq] at K
          obtain ⟨M2, hd2, hk2⟩ := HD.out.keep ha hq
          rw [HI.out] at hd2 hk2
          have HD2 := hide hd2
          have HI2 := hide hk2
          clear hxa hfz hcell ha hq hd2 hk2
          go_wp2_with fail
          refine K.out.mono ?_
          rintro e w2 ⟨rfl, hb⟩
          have HB2 := hide (HBw.out.trans (hb.mono (Nat.le_trans hB hsz)))
          have HO2 := hide (HO.out.bel hb)
          clear hb K HO HBw q0
          obtain ⟨m0, hm0⟩ : ∃ m0, xs[i]? = some m0 := ⟨_, List.getElem?_eq_getElem (by omega)⟩
          obtain ⟨g3, cap3, hv3, hg3, hg4, _, _, hfz3, hcell3, hput3⟩ := own_at HO2.out hm0
          rw [hxl] at hv3
          cases hv3
          have q1 : w2.cell? ⟨g, i, none⟩ = some (.pointer (some ⟨m0, 0, none⟩)) := by have := hcell3 0 _ (show (pC m0)[0]? = some (.pointer (some ⟨m0, 0, none⟩)) from rfl); simpa using this
          have z1 := hfz3 i
          have HP := hide (hput3 0 (.pointer (some ⟨a, 0, none⟩)) a (w2.setCell ⟨g, i, none⟩ (.pointer (some ⟨a, 0, none⟩))) (by simp) (by decide) rfl)
          have HB3 := hide (HB2.out.setCell (p := ⟨g, i, none⟩) (by show B ≤ g; exact hg3) (.pointer (some ⟨a, 0, none⟩)))
          clear hfz3 hcell3 hput3 HO2 HB2 hm0
          go_wp2
          go_roundw
          case rel => exact ⟨i + 1, j + 1, xs.set i a, M2, by go_num, by go_num, by omega, by omega, HI2, HD2, HP, HB3⟩
          case measure => simp [nI]; omega
        · rw [hq] at K
          obtain ⟨hd2, hk2⟩ := HD.out.skip ha hq
          have HD2 := hide hd2
          have HI2 := hide (show (kept q ps (j + 1)).length = i by rw [hk2]; exact HI.out)
          clear hxa hfz hcell ha hq hd2 hk2
          go_wp2_with fail
          refine K.out.mono ?_
          rintro e w2 ⟨rfl, hb⟩
          have HB2 := hide (HBw.out.trans (hb.mono (Nat.le_trans hB hsz)))
          have HO2 := hide (HO.out.bel hb)
          clear hb K HO HBw q0
          go_wp2
          go_roundw
          case rel => exact ⟨i, j + 1, xs, _, rfl, by go_num, by omega, by omega, HI2, HD2, HO2, HB2⟩
          case measure => simp [nI]; omega
      · obtain rfl : j = ps.length := by omega
        have hil : i < ps.length := hij
        obtain ⟨m0, hm0⟩ : ∃ m0, xs[i]? = some m0 := ⟨_, List.getElem?_eq_getElem (by omega)⟩
        obtain ⟨g, cap, hv, hg1, hg2, _, _, _⟩ := own_at HO.out hm0
        rw [hxl] at hv
        cases hv
        have hcl : ∀ ty, (Builtin.clear_ #[123] ty #[.slice (some ⟨g, i, none⟩) (ps.length - i) (c - i)]).run Tryz.prog wr = .ok (.tuple #[]) (wr.setCells g i (Builtin.zeroCells (Value.pointer none).cells (ps.length - i)).toList) :=
          fun ty => run_clear_k (k := 1) Tryz.prog wr 123 108 ty (.pointer none) Tryz.underlying123 Tryz.zeroValue108 rfl (by intro v hv; simp [Value.cells] at hv; subst hv; rfl) g i (ps.length - i) (c - i) (by omega)
            (fun t ht => by
              obtain ⟨m, hm⟩ : ∃ m, xs[i + t]? = some m := ⟨_, List.getElem?_eq_getElem (by omega)⟩
              obtain ⟨g', cap', hv', _, _, _, _, _, hcell', _⟩ := own_at HO.out hm
              rw [hxl] at hv'
              cases hv'
              have := hcell' 0 _ (show (pC m)[0]? = some (.pointer (some ⟨m, 0, none⟩)) from rfl)
              simp only [Nat.mul_one, Nat.add_zero] at this
              rw [this]; rfl)
            (fun t ht => by
              obtain ⟨m, hm⟩ : ∃ m, xs[i + t]? = some m := ⟨_, List.getElem?_eq_getElem (by omega)⟩
              obtain ⟨g', cap', hv', _, _, _, _, hfz', _, _⟩ := own_at HO.out hm
              rw [hxl] at hv'
              cases hv'
              exact hfz' _)
        have hHB := Below.grown HBw.out (gb_setCells (World.grownBy.refl wr (some g)) (Builtin.zeroCells (Value.pointer none).cells (ps.length - i)).toList i) (by omega) (fun k hk => by cases hk; exact hg1)
        have hSl : Sl pC 1 (wr.setCells g i (Builtin.zeroCells (Value.pointer none).cells (ps.length - i)).toList) (some ⟨g, 0, none⟩) c (kept q ps ps.length) := by
          obtain ⟨A2, c2, hv2, hS2⟩ := HO.out.sl
          rw [hxl] at hv2
          cases hv2
          have hks := HI.out
          refine ⟨by omega, hc, fun z _ => rfl, fun hn => ?_⟩
          obtain ⟨b2, off2, hb2, hlt2, hcc⟩ := hS2.cells (by intro e; rw [e] at hxl; simp at hxl; omega)
          cases hb2
          refine ⟨g, 0, rfl, Nat.lt_of_lt_of_le hlt2 (gb_setCells (World.grownBy.refl wr (some g)) _ _).size, fun t v hv => ?_⟩
          have ht : t < i := by
            have h1 := (List.getElem?_eq_some_iff.1 hv).1
            rw [flat_length pC 1 _ (fun _ _ => rfl), hks] at h1
            omega
          have h2 : (xs.flatMap pC)[t]? = some v := by
            rw [HD.out.is_, List.append_assoc, List.flatMap_append, List.getElem?_append_left (by rw [flat_length pC 1 _ (fun _ _ => rfl), hks]; omega)]
            exact hv
          rw [← hcc t v h2]
          exact World.cell?_setCells_out g _ i wr ⟨g, 0 + t, none⟩ (fun _ _ => .inl (by show 0 + t < i; omega))
        have HSL := hide hSl
        have HHB := hide hHB
        have HKL := hide HI.out
        have hltz : ¬ (ps.length : Int) < (ps.length : Int) := by omega
        have hci : ¬ c = i := by omega
        have hni : ¬ (ps.length - i = 0) := by omega
        clear hSl hHB hm0 HD HO HBw HI
        go_wp2
        go_ret
        exact ⟨_, _, by rw [HKL.out]; rfl, HSL.out, HHB.out⟩
end Go.Proofs.YtnngemgfochodaaGreat.J
namespace Go.Proofs.YtnngemgfochodaaGreat.J
open Go.Proofs.YtnngemgfochodaaGreat
open Go.RowKit Go.Mine Go.Mine.Q
def befP (x y : Tk) : Prop := x.j.due < y.j.due ∨ (x.j.due = y.j.due ∧ x.j.no < y.j.no)
theorem befI_lt (x y : Tk) : befI x y < 0 ↔ befP x y := by
  unfold befI cmpI befP
  by_cases h1 : x.j.due < y.j.due
  · simp [h1]
  · by_cases h2 : y.j.due < x.j.due
    · simp [h1, h2]; omega
    · have he : x.j.due = y.j.due := by omega
      by_cases h3 : x.j.no < y.j.no
      · simp [he, h3]
      · by_cases h4 : y.j.no < x.j.no
        · simp [he, h3, h4]
        · simp [he, h3, h4]
theorem minGo_is (val : Nat → Tk) : ∀ (l : List Nat) (m : Nat), (minGo val m l = m ∨ minGo val m l ∈ l) ∧ ¬ befP (val m) (val (minGo val m l)) ∧ ∀ y ∈ l, ¬ befP (val y) (val (minGo val m l))
  | [], m => ⟨.inl rfl, by simp [minGo, befP], by simp⟩
  | x :: r, m => by
    rw [minGo]
    by_cases h : befI (val x) (val m) < 0
    · rw [if_pos h]
      obtain ⟨h1, h2, h3⟩ := minGo_is val r x
      have hb := (befI_lt _ _).1 h
      refine ⟨.inr (by rcases h1 with h1 | h1; rw [h1]; simp; exact List.mem_cons_of_mem _ h1), ?_, ?_⟩
      · generalize minGo val x r = z at *
        unfold befP at *
        omega
      · intro y hy
        rcases List.mem_cons.1 hy with rfl | hy
        · exact h2
        · exact h3 y hy
    · rw [if_neg h]
      obtain ⟨h1, h2, h3⟩ := minGo_is val r m
      have hb : ¬ befP (val x) (val m) := fun e => h ((befI_lt _ _).2 e)
      refine ⟨by rcases h1 with h1 | h1; exact .inl h1; exact .inr (List.mem_cons_of_mem _ h1), h2, ?_⟩
      intro y hy
      rcases List.mem_cons.1 hy with rfl | hy
      · generalize minGo val m r = z at *
        unfold befP at *
        omega
      · exact h3 y hy
/-- those to be worked on -/
def readyL (t : Int) (ps : List Nat) (val : Nat → Tk) : List Nat := ps.filter fun a => !notNow t (val a)
theorem notNow_avail {t : Int} {x : Tk} (h : 0 ≤ x.left) : (!notNow t x) = avail t x := by
  rw [Bool.eq_iff_iff]
  simp only [notNow, Bool.not_eq_true', Bool.or_eq_false_iff, decide_eq_false_iff_not, beq_eq_false_iff_ne, avail_iff]
  omega
theorem ready_none {t : Int} {ps : List Nat} {val : Nat → Tk} (hw : WF (ps.map val)) (h : readyL t ps val = []) : ∀ y ∈ ps.map val, avail t y = false := by
  intro y hy
  obtain ⟨a, ha, rfl⟩ := List.mem_map.1 hy
  have h0 := (hw _ hy).1
  cases hv : avail t (val a)
  · rfl
  · have : a ∈ readyL t ps val := List.mem_filter.2 ⟨ha, by rw [notNow_avail h0]; exact hv⟩
    rw [h] at this; simp at this
theorem ready_best {t : Int} {ps : List Nat} {val : Nat → Tk} (hw : WF (ps.map val)) (hp : (js (ps.map val)).Pairwise fun x y => x.no < y.no) {a0 : Nat} {r : List Nat} (h : readyL t ps val = a0 :: r) :
    ∃ i, ps[i]? = some (minGo val a0 r) ∧ Best t (ps.map val) i (val (minGo val a0 r)) := by
  obtain ⟨h1, h2, h3⟩ := minGo_is val r a0
  have hm : minGo val a0 r ∈ readyL t ps val := by
    rw [h]
    rcases h1 with h1 | h1
    · rw [h1]; simp
    · exact List.mem_cons_of_mem _ h1
  have hall : ∀ y ∈ readyL t ps val, ¬ befP (val y) (val (minGo val a0 r)) := by
    rw [h]; intro y hy
    rcases List.mem_cons.1 hy with rfl | hy
    · exact h2
    · exact h3 y hy
  generalize minGo val a0 r = z at *
  obtain ⟨hz1, hz2⟩ := List.mem_filter.1 hm
  obtain ⟨i, hi⟩ := List.getElem?_of_mem hz1
  have hzi : (ps.map val)[i]? = some (val z) := by rw [List.getElem?_map, hi]; rfl
  have hz0 := (hw _ (List.mem_of_getElem? hzi)).1
  rw [notNow_avail hz0] at hz2
  refine ⟨i, hi, hzi, hz2, fun k y hk hy => ?_⟩
  have hk' := hk
  rw [List.getElem?_map] at hk
  obtain ⟨a, ha, rfl⟩ := Option.map_eq_some_iff.1 hk
  have ha0 := (hw _ (List.mem_of_getElem? hk')).1
  have har : a ∈ readyL t ps val := List.mem_filter.2 ⟨List.mem_of_getElem? ha, by rw [notNow_avail ha0]; exact hy⟩
  have hnb := hall a har
  unfold befP at hnb
  by_cases hd : (val z).j.due < (val a).j.due
  · exact .inl hd
  · right
    refine ⟨by omega, ?_⟩
    rcases Nat.lt_or_ge k i with hlt | hge
    · have h6 : (val a).j.no < (val z).j.no := by
        have e1 : (js (ps.map val))[k]? = some (val a).j := by unfold js; rw [List.getElem?_map, hk']; rfl
        have e2 : (js (ps.map val))[i]? = some (val z).j := by unfold js; rw [List.getElem?_map, hzi]; rfl
        obtain ⟨b1, b2⟩ := List.getElem?_eq_some_iff.1 e1
        obtain ⟨d1, d2⟩ := List.getElem?_eq_some_iff.1 e2
        rw [List.pairwise_iff_getElem] at hp
        have := hp k i b1 d1 hlt
        rw [b2, d2] at this; exact this
      omega
    · exact hge
end Go.Proofs.YtnngemgfochodaaGreat.J
