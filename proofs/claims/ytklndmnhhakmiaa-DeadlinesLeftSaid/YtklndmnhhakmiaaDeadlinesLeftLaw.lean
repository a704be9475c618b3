/-
  DeadlinesLeft, walked.
-/
import Derived.Test.YtklndmnhhakmiaaDLaw
namespace Go.Proofs.Ytklndmnhhakmiaa
open Go.RowKit Go.Mine Go.Mine.B
attribute [local go_sem] Oper.semAt_some
theorem leftV_ok {b : List Bu} {l : List Tr} {n u k s t : Int} {q : Q} (h : dueV 400 1 b l n u k = (q, 0)) (hs : inR s 0 3 = true) (ht : timeB t = true) : leftV 400 1 b l n u k s t = (qg q s - t, 0) := by
  unfold leftV; rw [h]; simp [hs, ht]
theorem leftV_stage {b : List Bu} {l : List Tr} {n u k s t : Int} {q : Q} (h : dueV 400 1 b l n u k = (q, 0)) (hs : inR s 0 3 = false) : leftV 400 1 b l n u k s t = (0, 1) := by
  unfold leftV; rw [h]; simp [hs]
theorem leftV_time {b : List Bu} {l : List Tr} {n u k s t : Int} {q : Q} (h : dueV 400 1 b l n u k = (q, 0)) (ht : timeB t = false) : leftV 400 1 b l n u k s t = (0, 1) := by
  unfold leftV; rw [h]; simp [ht]
theorem leftV_bad {b : List Bu} {l : List Tr} {n u k s t : Int} {q : Q} {z : Int} (h : dueV 400 1 b l n u k = (q, z)) (hz : z ≠ 0) : leftV 400 1 b l n u k s t = (0, z) := by
  unfold leftV; rw [h]; simp [hz]
theorem dueV_q0 {b : List Bu} {l : List Tr} {n u k : Int} {q : Q} {z : Int} (h : dueV 400 1 b l n u k = (q, z)) (hz : z ≠ 0) : q = q0 := by
  unfold dueV at h
  split at h
  · exact (Prod.mk.inj h).1.symm
  · split at h
    · exact absurd (Prod.mk.inj h).2.symm hz
    · exact (Prod.mk.inj h).1.symm
theorem dueV_tq {b : List Bu} {l : List Tr} {n u k : Int} {q : Q} (h : dueV 400 1 b l n u k = (q, 0)) : q = tq (stq b l n u k) u ∧ okQ (stq b l n u k) ∧ timeB u = true := by
  by_cases hz : chk 400 b l = 0
  · rcases Bool.eq_false_or_eq_true (timeB u && timeB k && has b n) with h2 | h2
    · rw [dueV_good hz h2] at h
      simp only [Bool.and_eq_true] at h2
      exact ⟨(Prod.mk.inj h).1.symm, okQ_stq (chk_zero' hz).1 n u k, h2.1.1⟩
    · rw [dueV_arg hz h2] at h; exact absurd (Prod.mk.inj h).2 (by decide)
  · rw [dueV_bad hz] at h; exact absurd (Prod.mk.inj h).2 hz
theorem due_mono {b : List Bu} {l : List Tr} {n u k : Int} {q : Q} (h : dueV 400 1 b l n u k = (q, 0)) {s : Int} (hs : stage s) : qg q s ≤ qg q 3 := by
  obtain ⟨rfl, ho, _⟩ := dueV_tq h
  rw [qg_tq _ _ hs, qg_tq _ _ (s := 3) ⟨by omega, by omega⟩]
  have := path_mono ho hs (r := 3) ⟨by omega, by omega⟩ hs.2
  omega
theorem due_in {b : List Bu} {l : List Tr} {n u k : Int} {q : Q} (h : dueV 400 1 b l n u k = (q, 0)) {s : Int} (hs : stage s) : 0 ≤ qg q s ∧ qg q s ≤ 1103806595072 := by
  have := due_bound (b := b) (l := l) (n := n) (u := u) (k := k) (by rw [h]) hs
  rw [h] at this; exact this
theorem times31_one (t : Int) (W : World) : Calls Try.prog 31 #[.slice (some ⟨W.heap.size, 0, none⟩) 1 1] (W.alloc (.cells #[.int .i64 t] 3)) fun e w' => e = .returned (.bool (timeB t)) ∧ W.alloc (.cells #[.int .i64 t] 3) = w' := by
  have hs : Sl ic 1 (W.alloc (.cells #[.int .i64 t] 3)) (some ⟨W.heap.size, 0, none⟩) 1 [t] := blit ic 1 W 3 [t] 1 rfl rfl (fun _ _ => rfl) rfl (by decide)
  have h := times31 (some ⟨W.heap.size, 0, none⟩) 1 [t] (W.alloc (.cells #[.int .i64 t] 3)) hs
  simp only [List.all_cons, List.all_nil, Bool.and_true, List.length_cons, List.length_nil, Nat.zero_add] at h
  exact h
theorem times31_at (t : Int) (W : World) (g : Nat) (hg : W.heap.size = g) : Calls Try.prog 31 #[.slice (some ⟨g, 0, none⟩) 1 1] (W.alloc (.cells #[.int .i64 t] 3)) fun e w' => e = .returned (.bool (timeB t)) ∧ W.alloc (.cells #[.int .i64 t] 3) = w' := by
  subst hg; exact times31_one t W
set_option maxRecDepth 100000 in
set_option maxHeartbeats 4000000 in
theorem dleft_bad (A : Option Addr) (c : Nat) (b : List Bu) (B : Option Addr) (d : Nat) (l : List Tr) (n u k s t v : Int) (w : World) (hS : Sl buC 5 w A c b) (hT : Sl trC 7 w B d l) (hI : ∀ x ∈ b, BuS x) (hJ : ∀ x ∈ l, TrS x) (hr : fewD b l = true) {q : Q} {z : Int} (hd : dueV 400 1 b l n u k = (q, z)) (hz : z ≠ 0) :
    Calls Try.prog 12 #[.slice A b.length c, .slice B l.length d, .int .i64 n, .int .i64 u, .int .i64 k, .int .i64 s, .int .i64 t, .int .i64 v] w fun e w' => e = .returned (.bool true) ∧ Below w.heap.size w w' := by
  have KS := hide (sane25 w)
  have KF := hide (fun W (h : Below w.heap.size w W) => few30 A B c d b l W (hS.bel h) (hT.bel h))
  rw [hr] at KF
  have K1 := hide (fun W (h : Below w.heap.size w W) => due26 A c b B d l n u k W (hS.bel h) (hT.bel h) (BuS.all hI) (TrS.all hJ))
  have K2 := hide (fun W (h : Below w.heap.size w W) => left28 A c b B d l n u k s t W (hS.bel h) (hT.bel h) (BuS.all hI) (TrS.all hJ))
  have K3 := hide (fun W (h : Below w.heap.size w W) => left28 A c b B d l n u k s v W (hS.bel h) (hT.bel h) (BuS.all hI) (TrS.all hJ))
  obtain rfl := dueV_q0 hd hz
  rw [hd] at K1
  rw [leftV_bad hd hz] at K2 K3
  have gz : (z != 0) = true := by simpa using hz
  have e24 := fun d W => arr24 W 0 0 0 0 0 0 0 0 rfl d
  clear hS hT hI hJ hr hd hz
  go_enter Try.func12, Try.ntmps12
  go_wp2_with fail
  refine KS.out.mono ?_
  rintro e w1 ⟨rfl, hb⟩
  have HB1 := hide hb
  clear hb KS
  go_wp2_with fail
  refine (KF.out _ HB1.out).mono ?_
  rintro e w2 ⟨rfl, hb⟩
  have HB2 := hide (kcall HB1.out hb)
  clear hb KF HB1
  go_wp2_with fail
  refine (K1.out _ HB2.out).mono ?_
  rintro e w3 ⟨rfl, hb⟩
  have HB3 := hide (kcall HB2.out hb)
  clear hb K1 HB2
  simp only [qV, qC, q0]
  go_wp2_with fail
  refine (K2.out _ (kalloc HB3.out _)).mono ?_
  rintro e w4 ⟨rfl, hb⟩
  have HB4 := hide (kcall (kalloc HB3.out _) hb)
  have X := hide ((Blk.new w3 #[.int .i64 0, .int .i64 0, .int .i64 0, .int .i64 0] 24).bel hb)
  clear hb K2 HB3
  go_wp2_with fail
  refine (K3.out _ HB4.out).mono ?_
  rintro e w5 ⟨rfl, hb⟩
  have HB5 := hide (kcall HB4.out hb)
  have X := hide (X.out.bel hb)
  clear hb K3 HB4
  have hxl := X.out.lt
  have c0 := X.out.cell (v := .int .i64 0) 0 rfl
  have c1 := X.out.cell (v := .int .i64 0) 1 rfl
  have c2 := X.out.cell (v := .int .i64 0) 2 rfl
  have c3 := X.out.cell (v := .int .i64 0) 3 rfl
  go_wp2
  go_ret
  exact ⟨rfl, HB5.out⟩
set_option maxRecDepth 100000 in
set_option maxHeartbeats 4000000 in
theorem dleft_stage (A : Option Addr) (c : Nat) (b : List Bu) (B : Option Addr) (d : Nat) (l : List Tr) (n u k s t v : Int) (w : World) (hS : Sl buC 5 w A c b) (hT : Sl trC 7 w B d l) (hI : ∀ x ∈ b, BuS x) (hJ : ∀ x ∈ l, TrS x) (hr : fewD b l = true) {q : Q} (hd : dueV 400 1 b l n u k = (q, 0)) (hs : inR s 0 3 = false) :
    Calls Try.prog 12 #[.slice A b.length c, .slice B l.length d, .int .i64 n, .int .i64 u, .int .i64 k, .int .i64 s, .int .i64 t, .int .i64 v] w fun e w' => e = .returned (.bool true) ∧ Below w.heap.size w w' := by
  have KS := hide (sane25 w)
  have KF := hide (fun W (h : Below w.heap.size w W) => few30 A B c d b l W (hS.bel h) (hT.bel h))
  rw [hr] at KF
  have K1 := hide (fun W (h : Below w.heap.size w W) => due26 A c b B d l n u k W (hS.bel h) (hT.bel h) (BuS.all hI) (TrS.all hJ))
  have K2 := hide (fun W (h : Below w.heap.size w W) => left28 A c b B d l n u k s t W (hS.bel h) (hT.bel h) (BuS.all hI) (TrS.all hJ))
  have K3 := hide (fun W (h : Below w.heap.size w W) => left28 A c b B d l n u k s v W (hS.bel h) (hT.bel h) (BuS.all hI) (TrS.all hJ))
  rw [hd] at K1
  rw [leftV_stage hd hs] at K2 K3
  obtain ⟨q1, q2, q3, q4⟩ := q
  clear hS hT hI hJ hr hd
  have hc : decide (s < 0) = true ∨ (decide (s < 0) = false ∧ decide (3 < s) = true) := by
    unfold inR at hs
    by_cases h : s < 0
    · exact Or.inl (decide_eq_true h)
    · exact Or.inr ⟨decide_eq_false h, by simp at hs ⊢; omega⟩
  clear hs
  rcases hc with g1 | ⟨g1, g2⟩
  all_goals
    go_enter Try.func12, Try.ntmps12
    go_wp2_with fail
    refine KS.out.mono ?_
    rintro e w1 ⟨rfl, hb⟩
    have HB1 := hide hb
    clear hb KS
    go_wp2_with fail
    refine (KF.out _ HB1.out).mono ?_
    rintro e w2 ⟨rfl, hb⟩
    have HB2 := hide (kcall HB1.out hb)
    clear hb KF HB1
    go_wp2_with fail
    refine (K1.out _ HB2.out).mono ?_
    rintro e w3 ⟨rfl, hb⟩
    have HB3 := hide (kcall HB2.out hb)
    clear hb K1 HB2
    simp only [qV, qC]
    go_wp2_with fail
    refine (K2.out _ (kalloc HB3.out _)).mono ?_
    rintro e w4 ⟨rfl, hb⟩
    have HB4 := hide (kcall (kalloc HB3.out _) hb)
    have X := hide ((Blk.new w3 #[.int .i64 q1, .int .i64 q2, .int .i64 q3, .int .i64 q4] 24).bel hb)
    clear hb K2 HB3
    go_wp2_with fail
    refine (K3.out _ HB4.out).mono ?_
    rintro e w5 ⟨rfl, hb⟩
    have HB5 := hide (kcall HB4.out hb)
    have X := hide (X.out.bel hb)
    clear hb K3 HB4
    have hxl := X.out.lt
    go_wp2
    go_ret
    exact ⟨rfl, HB5.out⟩
set_option maxRecDepth 100000 in
set_option maxHeartbeats 4000000 in
theorem dleft_time (A : Option Addr) (c : Nat) (b : List Bu) (B : Option Addr) (d : Nat) (l : List Tr) (n u k s t v : Int) (w : World) (hS : Sl buC 5 w A c b) (hT : Sl trC 7 w B d l) (hI : ∀ x ∈ b, BuS x) (hJ : ∀ x ∈ l, TrS x) (hr : fewD b l = true) {q : Q} (hd : dueV 400 1 b l n u k = (q, 0)) (hs : inR s 0 3 = true) (ht : (timeB t && timeB v) = false) :
    Calls Try.prog 12 #[.slice A b.length c, .slice B l.length d, .int .i64 n, .int .i64 u, .int .i64 k, .int .i64 s, .int .i64 t, .int .i64 v] w fun e w' => e = .returned (.bool true) ∧ Below w.heap.size w w' := by
  have KS := hide (sane25 w)
  have KF := hide (fun W (h : Below w.heap.size w W) => few30 A B c d b l W (hS.bel h) (hT.bel h))
  rw [hr] at KF
  have K1 := hide (fun W (h : Below w.heap.size w W) => due26 A c b B d l n u k W (hS.bel h) (hT.bel h) (BuS.all hI) (TrS.all hJ))
  have K2 := hide (fun W (h : Below w.heap.size w W) => left28 A c b B d l n u k s t W (hS.bel h) (hT.bel h) (BuS.all hI) (TrS.all hJ))
  have K3 := hide (fun W (h : Below w.heap.size w W) => left28 A c b B d l n u k s v W (hS.bel h) (hT.bel h) (BuS.all hI) (TrS.all hJ))
  rw [hd] at K1
  have KT := hide (times31_at t)
  have KV := hide (times31_at v)
  have H2 : ∃ x, leftV 400 1 b l n u k s t = (x, if timeB t = true then 0 else 1) := by
    rcases Bool.eq_false_or_eq_true (timeB t) with h | h
    · exact ⟨_, by rw [leftV_ok hd hs h, if_pos h]⟩
    · exact ⟨_, by rw [leftV_time hd h, if_neg (by simp [h])]⟩
  have H3 : ∃ x, leftV 400 1 b l n u k s v = (x, if timeB v = true then 0 else 1) := by
    rcases Bool.eq_false_or_eq_true (timeB v) with h | h
    · exact ⟨_, by rw [leftV_ok hd hs h, if_pos h]⟩
    · exact ⟨_, by rw [leftV_time hd h, if_neg (by simp [h])]⟩
  obtain ⟨x2, e2⟩ := H2
  obtain ⟨x3, e3⟩ := H3
  rw [e2] at K2
  rw [e3] at K3
  obtain ⟨q1, q2, q3, q4⟩ := q
  clear hS hT hI hJ hr hd e2 e3
  rw [inR_iff] at hs
  have g1 : decide (s < 0) = false := decide_eq_false (by omega)
  have g2 : decide (3 < s) = false := decide_eq_false (by omega)
  clear hs
  generalize timeB t = r1 at *
  generalize timeB v = r2 at *
  have hc : (r1 = false ∧ r2 = false) ∨ (r1 = false ∧ r2 = true) ∨ (r1 = true ∧ r2 = false) := by cases r1 <;> cases r2 <;> simp_all
  clear ht
  rcases hc with ⟨rfl, rfl⟩ | ⟨rfl, rfl⟩ | ⟨rfl, rfl⟩
  all_goals
    simp only [if_true, Bool.false_eq_true, if_false] at K2 K3
    go_enter Try.func12, Try.ntmps12
    go_wp2_with fail
    refine KS.out.mono ?_
    rintro e w1 ⟨rfl, hb⟩
    have HB1 := hide hb
    clear hb KS
    go_wp2_with fail
    refine (KF.out _ HB1.out).mono ?_
    rintro e w2 ⟨rfl, hb⟩
    have HB2 := hide (kcall HB1.out hb)
    clear hb KF HB1
    go_wp2_with fail
    refine (K1.out _ HB2.out).mono ?_
    rintro e w3 ⟨rfl, hb⟩
    have HB3 := hide (kcall HB2.out hb)
    clear hb K1 HB2
    simp only [qV, qC]
    go_wp2_with fail
    refine (K2.out _ (kalloc HB3.out _)).mono ?_
    rintro e w4 ⟨rfl, hb⟩
    have HB4 := hide (kcall (kalloc HB3.out _) hb)
    have X := hide ((Blk.new w3 #[.int .i64 q1, .int .i64 q2, .int .i64 q3, .int .i64 q4] 24).bel hb)
    clear hb K2 HB3
    go_wp2_with fail
    refine (K3.out _ HB4.out).mono ?_
    rintro e w5 ⟨rfl, hb⟩
    have HB5 := hide (kcall HB4.out hb)
    have X := hide (X.out.bel hb)
    clear hb K3 HB4
    have hxl := X.out.lt
    go_wp2_with (go_at_call 31; first | (with_reducible refine (KT.out _ _ (by first | rfl | (simp; done))).mono ?_; rintro e w' ⟨rfl, rfl⟩) | (with_reducible refine (KV.out _ _ (by first | rfl | (simp; done))).mono ?_; rintro e w' ⟨rfl, rfl⟩))
    go_ret
    exact ⟨rfl, by first | exact kalloc (kalloc (kalloc (kalloc HB5.out _) _) _) _ | exact kalloc (kalloc (kalloc HB5.out _) _) _ | exact kalloc (kalloc HB5.out _) _⟩
set_option maxRecDepth 100000 in
set_option maxHeartbeats 4000000 in
theorem dleft_good (A : Option Addr) (c : Nat) (b : List Bu) (B : Option Addr) (d : Nat) (l : List Tr) (n u k t v : Int) (s : Nat) (w : World) (hS : Sl buC 5 w A c b) (hT : Sl trC 7 w B d l) (hI : ∀ x ∈ b, BuS x) (hJ : ∀ x ∈ l, TrS x) (hr : fewD b l = true) {q : Q} (hd : dueV 400 1 b l n u k = (q, 0)) (hs : s < 4) (ht : timeB t = true) (hv : timeB v = true) :
    Calls Try.prog 12 #[.slice A b.length c, .slice B l.length d, .int .i64 n, .int .i64 u, .int .i64 k, .int .i64 (s : Int), .int .i64 t, .int .i64 v] w fun e w' => e = .returned (.bool true) ∧ Below w.heap.size w w' := by
  have KS := hide (sane25 w)
  have KF := hide (fun W (h : Below w.heap.size w W) => few30 A B c d b l W (hS.bel h) (hT.bel h))
  rw [hr] at KF
  have K1 := hide (fun W (h : Below w.heap.size w W) => due26 A c b B d l n u k W (hS.bel h) (hT.bel h) (BuS.all hI) (TrS.all hJ))
  have K2 := hide (fun W (h : Below w.heap.size w W) => left28 A c b B d l n u k (s : Int) t W (hS.bel h) (hT.bel h) (BuS.all hI) (TrS.all hJ))
  have K3 := hide (fun W (h : Below w.heap.size w W) => left28 A c b B d l n u k (s : Int) v W (hS.bel h) (hT.bel h) (BuS.all hI) (TrS.all hJ))
  have K5 := hide (fun W (h : Below w.heap.size w W) => left28 A c b B d l n u k (s : Int) (qg q (s : Int)) W (hS.bel h) (hT.bel h) (BuS.all hI) (TrS.all hJ))
  have K6 := hide (fun W (h : Below w.heap.size w W) => left28 A c b B d l n u k 3 t W (hS.bel h) (hT.bel h) (BuS.all hI) (TrS.all hJ))
  have KT := hide (times31_at t)
  have KV := hide (times31_at v)
  rw [hd] at K1
  have hin : inR (s : Int) 0 3 = true := inR_iff.2 ⟨by omega, by omega⟩
  have hst : stage (s : Int) := ⟨by omega, by omega⟩
  rw [leftV_ok hd hin ht] at K2
  rw [leftV_ok hd hin hv] at K3
  rw [leftV_ok hd rfl ht] at K6
  have hq := due_in hd hst
  have h3 := due_in hd (s := 3) ⟨by omega, by omega⟩
  have hm := due_mono hd hst
  have h5 := hide (fun h : qg q (s : Int) < 1099511627776 => (leftV_ok hd hin (timeB_iff.2 ⟨hq.1, h⟩)))
  have hdz := hd
  have t1 := timeB_iff.1 ht
  have t2 := timeB_iff.1 hv
  have hcell := hide (qC_get q s hs)
  rw [ht] at KT
  rw [hv] at KV
  generalize leftV 400 1 b l n u k (s : Int) (qg q (s : Int)) = R at *
  generalize qg q (s : Int) = x at *
  generalize qg q 3 = y at *
  obtain ⟨q1, q2, q3, q4⟩ := q
  have gi : (s : Int) < 4 := by omega
  have g1 : decide ((s : Int) < 0) = false := decide_eq_false (by omega)
  have g2 : decide (3 < (s : Int)) = false := decide_eq_false (by omega)
  have gw1 : IntKind.i64.wrap (x - t - (x - v)) = v - t := by rw [IntKind.wrap_i64]; omega
  have gw2 : IntKind.i64.wrap (v - t) = v - t := by rw [IntKind.wrap_i64]; omega
  have gw3 : IntKind.i64.wrap (x - t) = x - t := by rw [IntKind.wrap_i64]; omega
  have gy : decide (x ≤ y) = true := decide_eq_true (by omega)
  clear hS hT hI hJ hr hd hdz t1 t2 hm hq h3 hin hst ht hv
  by_cases hx : x < 1099511627776
  · have gx : decide (x < 1099511627776) = true := decide_eq_true hx
    have h6 := h5.out hx
    rw [h6] at K5
    simp only [Int.sub_self] at K5
    clear h5 h6 hx
    go_enter Try.func12, Try.ntmps12
    go_wp2_with fail
    refine KS.out.mono ?_
    rintro e w1 ⟨rfl, hb⟩
    have HB1 := hide hb
    clear hb KS
    go_wp2_with fail
    refine (KF.out _ HB1.out).mono ?_
    rintro e w2 ⟨rfl, hb⟩
    have HB2 := hide (kcall HB1.out hb)
    clear hb KF HB1
    go_wp2_with fail
    refine (K1.out _ HB2.out).mono ?_
    rintro e w3 ⟨rfl, hb⟩
    have HB3 := hide (kcall HB2.out hb)
    clear hb K1 HB2
    simp only [qV, qC]
    go_wp2_with fail
    refine (K2.out _ (kalloc HB3.out _)).mono ?_
    rintro e w4 ⟨rfl, hb⟩
    have HB4 := hide (kcall (kalloc HB3.out _) hb)
    have X := hide ((Blk.new w3 #[.int .i64 q1, .int .i64 q2, .int .i64 q3, .int .i64 q4] 24).bel hb)
    clear hb K2 HB3
    go_wp2_with fail
    refine (K3.out _ HB4.out).mono ?_
    rintro e w5 ⟨rfl, hb⟩
    have HB5 := hide (kcall HB4.out hb)
    have X := hide (X.out.bel hb)
    clear hb K3 HB4
    have hxl := X.out.lt
    have c0 := X.out.cell s hcell.out
    go_wp2_with (go_at_call 31; first | (with_reducible refine (KT.out _ _ (by first | rfl | (simp; done))).mono ?_; rintro e w' ⟨rfl, rfl⟩) | (with_reducible refine (KV.out _ _ (by first | rfl | (simp; done))).mono ?_; rintro e w' ⟨rfl, rfl⟩))
    refine (K5.out _ (kalloc (kalloc HB5.out _) _)).mono ?_
    rintro e w6 ⟨rfl, hb⟩
    have HB6 := hide (kcall (kalloc (kalloc HB5.out _) _) hb)
    clear hb K5
    go_wp2_with fail
    refine (K6.out _ HB6.out).mono ?_
    rintro e w7 ⟨rfl, hb⟩
    have HB7 := hide (kcall HB6.out hb)
    go_wp2
    go_ret
    exact ⟨rfl, HB7.out⟩
  · have gx : decide (x < 1099511627776) = false := decide_eq_false hx
    clear h5 hx K5
    go_enter Try.func12, Try.ntmps12
    go_wp2_with fail
    refine KS.out.mono ?_
    rintro e w1 ⟨rfl, hb⟩
    have HB1 := hide hb
    clear hb KS
    go_wp2_with fail
    refine (KF.out _ HB1.out).mono ?_
    rintro e w2 ⟨rfl, hb⟩
    have HB2 := hide (kcall HB1.out hb)
    clear hb KF HB1
    go_wp2_with fail
    refine (K1.out _ HB2.out).mono ?_
    rintro e w3 ⟨rfl, hb⟩
    have HB3 := hide (kcall HB2.out hb)
    clear hb K1 HB2
    simp only [qV, qC]
    go_wp2_with fail
    refine (K2.out _ (kalloc HB3.out _)).mono ?_
    rintro e w4 ⟨rfl, hb⟩
    have HB4 := hide (kcall (kalloc HB3.out _) hb)
    have X := hide ((Blk.new w3 #[.int .i64 q1, .int .i64 q2, .int .i64 q3, .int .i64 q4] 24).bel hb)
    clear hb K2 HB3
    go_wp2_with fail
    refine (K3.out _ HB4.out).mono ?_
    rintro e w5 ⟨rfl, hb⟩
    have HB5 := hide (kcall HB4.out hb)
    have X := hide (X.out.bel hb)
    clear hb K3 HB4
    have hxl := X.out.lt
    have c0 := X.out.cell s hcell.out
    go_wp2_with (go_at_call 31; first | (with_reducible refine (KT.out _ _ (by first | rfl | (simp; done))).mono ?_; rintro e w' ⟨rfl, rfl⟩) | (with_reducible refine (KV.out _ _ (by first | rfl | (simp; done))).mono ?_; rintro e w' ⟨rfl, rfl⟩))
    refine (K6.out _ (kalloc (kalloc HB5.out _) _)).mono ?_
    rintro e w7 ⟨rfl, hb⟩
    have HB7 := hide (kcall (kalloc (kalloc HB5.out _) _) hb)
    go_wp2
    go_ret
    exact ⟨rfl, HB7.out⟩
set_option maxRecDepth 100000 in
theorem dleft_no (A : Option Addr) (c : Nat) (b : List Bu) (B : Option Addr) (d : Nat) (l : List Tr) (n u k s t v : Int) (w : World) (hS : Sl buC 5 w A c b) (hT : Sl trC 7 w B d l) (hr : fewD b l = false) :
    Calls Try.prog 12 #[.slice A b.length c, .slice B l.length d, .int .i64 n, .int .i64 u, .int .i64 k, .int .i64 s, .int .i64 t, .int .i64 v] w fun e w' => e = .returned (.bool true) ∧ Below w.heap.size w w' := by
  have KS := hide (sane25 w)
  have KF := hide (fun W (h : Below w.heap.size w W) => few30 A B c d b l W (hS.bel h) (hT.bel h))
  rw [hr] at KF
  clear hS hT hr
  go_enter Try.func12, Try.ntmps12
  go_wp2_with fail
  refine KS.out.mono ?_
  rintro e w1 ⟨rfl, hb⟩
  have HB1 := hide hb
  clear hb KS
  go_wp2_with fail
  refine (KF.out _ HB1.out).mono ?_
  rintro e w2 ⟨rfl, hb⟩
  have HB2 := hide (kcall HB1.out hb)
  clear hb KF HB1
  go_wp2
  go_ret
  exact ⟨rfl, HB2.out⟩
theorem deadlinesLeft_law (A : Option Addr) (c : Nat) (b : List Bu) (B : Option Addr) (d : Nat) (l : List Tr) (n u k s t v : Int) (w : World) (hS : Sl buC 5 w A c b) (hT : Sl trC 7 w B d l) (hI : ∀ x ∈ b, BuS x) (hJ : ∀ x ∈ l, TrS x) :
    Calls Try.prog 12 #[.slice A b.length c, .slice B l.length d, .int .i64 n, .int .i64 u, .int .i64 k, .int .i64 s, .int .i64 t, .int .i64 v] w fun e w' => e = .returned (.bool true) ∧ Below w.heap.size w w' := by
  rcases Bool.eq_false_or_eq_true (fewD b l) with hr | hr
  · rcases hd : dueV 400 1 b l n u k with ⟨q, z⟩
    by_cases hz : z = 0
    · subst hz
      rcases Bool.eq_false_or_eq_true (inR s 0 3) with hs | hs
      · rcases Bool.eq_false_or_eq_true (timeB t && timeB v) with ht | ht
        · rw [Bool.and_eq_true] at ht
          have h := inR_iff.1 hs
          obtain ⟨m, rfl⟩ := Int.eq_ofNat_of_zero_le h.1
          exact dleft_good A c b B d l n u k t v m w hS hT hI hJ hr hd (by omega) ht.1 ht.2
        · exact dleft_time A c b B d l n u k s t v w hS hT hI hJ hr hd hs ht
      · exact dleft_stage A c b B d l n u k s t v w hS hT hI hJ hr hd hs
    · exact dleft_bad A c b B d l n u k s t v w hS hT hI hJ hr hd hz
  · exact dleft_no A c b B d l n u k s t v w hS hT hr
end Go.Proofs.Ytklndmnhhakmiaa
