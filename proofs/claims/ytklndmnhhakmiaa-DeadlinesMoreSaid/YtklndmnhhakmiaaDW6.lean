/-
  deadlines: Due of the program, where it answers.
-/
import Derived.Test.YtklndmnhhakmiaaDW5
import Derived.Test.YtklndmnhhakmiaaRange2
namespace Go.Proofs.Ytklndmnhhakmiaa
open Go.RowKit Go.Mine Go.Mine.B
attribute [local go_sem] Oper.semAt_some
/-- the first k times are set -/
def addT (q : Q) (u : Int) : Nat → Q
  | 0 => q0
  | s + 1 => qs (addT q u s) (s : Int) (u + path q (s : Int))
theorem addT_four (q : Q) (u : Int) : addT q u 4 = tq q u := by simp [addT, qs, tq]
set_option maxHeartbeats 4000000 in
theorem due26_good (A : Option Addr) (c : Nat) (b : List Bu) (B : Option Addr) (d : Nat) (l : List Tr) (n u k : Int) (w : World) (hS : Sl buC 5 w A c b) (hT : Sl trC 7 w B d l) (hI : buS b) (hJ : trS l) (hz : chk 400 b l = 0) (ht : (timeB u && timeB k) = true) (hn : has b n = true) :
    Calls Try.prog 26 #[.slice A b.length c, .slice B l.length d, .int .i64 n, .int .i64 u, .int .i64 k] w (DueE (dueV 400 1 b l n u k) w) := by
  have X0 := hide (Blk.new w #[.int .i64 0, .int .i64 0, .int .i64 0, .int .i64 0] 24)
  have HB0 := hide (kalloc (Below.refl w.heap.size w) (.cells #[.int .i64 0, .int .i64 0, .int .i64 0, .int .i64 0] 24))
  have K18 := hide (check18 A c b B d l _ (hS.bel HB0.out) (hT.bel HB0.out) hI hJ)
  rw [hz] at K18
  have K56 := hide (fun W => times56_two u k W)
  rw [ht] at K56
  have K20 := hide (fun W (h : Below w.heap.size w W) => standing20 A c b B d l u k W (hS.bel h) (hT.bel h) hI hJ)
  have ha := argA_of (by simp only [Bool.and_eq_true] at ht; exact ht.1) (by simp only [Bool.and_eq_true] at ht; exact ht.2)
  rw [(stand_ok hz ha).1, (stand_ok hz ha).2] at K20
  have K57 := hide (fun A9 c9 W (h9 : Sl buC 5 W A9 c9 (standing b l u k)) => find57 A9 c9 (standing b l u k) n u W h9)
  rw [show (standing b l u k).find? (fun y => decide (y.lang = n)) = some ⟨n, stq b l n u k⟩ from (find_view b (fin b l u k) n).trans (if_pos hn)] at K57
  have HE := hide (dueV_good (n := n) (u := u) (k := k) hz (by rw [ht, hn]; rfl))
  have hq := okQ_stq (chk_zero' hz).1 n u k
  have hu : timeB u = true := by simp only [Bool.and_eq_true] at ht; exact ht.1
  generalize dueV 400 1 b l n u k = R at *
  generalize standing b l u k = L at *
  generalize stq b l n u k = q at *
  have K58 := hide (fun W => stages58 ⟨n, q⟩ u W)
  have KI := hide (fun W B (X : Blk W B 74 (wdC ⟨n, q⟩ u).toArray) => stages66_iter ⟨n, q⟩ u W B X hq hu)
  have HG := hide (fun k (hk : k < 4) => stL_get q u hk)
  have HP := hide (fun k : Nat => path_ok hq (k : Int))
  have hmf : ∀ (fn : Fn) (first cap : Array Value) (w : World), (Instr.makeFunc fn first cap).run Try.prog w = .ok (.func fn first cap) w := fun _ _ _ _ => rfl
  rw [← addT_four q u] at HE
  obtain ⟨q1, q2, q3, q4⟩ := q
  simp only [wdC] at K58 KI
  clear hS hT hI hJ hz ht ha hn hq hu
  refine (callsIn_wide (n := 9)).1 (callsIn_of_wp_marks Try.func26 rfl trivial ?_ rfl)
  simp only [Try.ntmps26]
  simp only [List.size_toArray, List.length_cons, List.length_nil, Nat.reduceAdd, Nat.reduceSub, Array.replicate_succ, Array.replicate_zero, List.push_toArray, List.append_toArray, List.nil_append, List.cons_append]
  gi_wp2_with fail
  refine (callsIn_wide.2 K18.out).mono ?_
  rintro e w1 ⟨rfl, hb⟩
  have HB1 := hide (kcall HB0.out hb)
  have X1 := hide (X0.out.bel hb)
  clear hb K18 X0 HB0
  gi_wp2_with fail
  refine (callsIn_wide.2 (K56.out _)).mono ?_
  rintro e w2 ⟨rfl, rfl⟩
  have HB2 := hide (kalloc HB1.out (.cells #[.int .i64 u, .int .i64 k] 3))
  have X2 := hide (X1.out.alloc (.cells #[.int .i64 u, .int .i64 k] 3))
  clear K56 HB1 X1
  gi_wp2_with fail
  refine (callsIn_wide.2 (K20.out _ HB2.out)).mono ?_
  rintro e w3 ⟨A9, c9, rfl, h9, hb⟩
  have HB3 := hide (kcall HB2.out hb)
  have X3 := hide (X2.out.bel hb)
  have H9 := hide h9
  clear K20 HB2 X2 hb h9
  gi_wp2_with fail
  refine (callsIn_wide.2 (K57.out _ _ _ H9.out)).mono ?_
  rintro e w4 ⟨rfl, hb⟩
  simp only [fdY, wdC, Option.isSome_some, Option.getD_some, if_true]
  have HB4 := hide (kcall HB3.out hb)
  have X4 := hide (X3.out.bel hb)
  clear K57 HB3 X3 hb H9
  gi_wp2_with fail
  refine (callsIn_wide.2 (K58.out _)).mono ?_
  rintro e w6 ⟨rfl, rfl⟩
  have HB6 := hide (kalloc (kalloc HB4.out (.cells #[.int .i64 n, .int .i64 q1, .int .i64 q2, .int .i64 q3, .int .i64 q4, .int .i64 u] 74)) (.cells #[.int .i64 n, .int .i64 q1, .int .i64 q2, .int .i64 q3, .int .i64 q4, .int .i64 u] 74))
  have X6 := hide ((X4.out.alloc (.cells #[.int .i64 n, .int .i64 q1, .int .i64 q2, .int .i64 q3, .int .i64 q4, .int .i64 u] 74)).alloc (.cells #[.int .i64 n, .int .i64 q1, .int .i64 q2, .int .i64 q3, .int .i64 q4, .int .i64 u] 74))
  have XB := Blk.new1 w4 (.cells #[.int .i64 n, .int .i64 q1, .int .i64 q2, .int .i64 q3, .int .i64 q4, .int .i64 u] 74) #[.int .i64 n, .int .i64 q1, .int .i64 q2, .int .i64 q3, .int .i64 q4, .int .i64 u] 74
  have hit := KI.out _ _ XB
  have hz6 := XB.lt
  have hw4 := HB4.out.size
  clear K58 KI HB4 X4
  have hw6 := X6.out.lt
  generalize ((w4.alloc (.cells #[.int .i64 n, .int .i64 q1, .int .i64 q2, .int .i64 q3, .int .i64 q4, .int .i64 u] 74)).alloc (.cells #[.int .i64 n, .int .i64 q1, .int .i64 q2, .int .i64 q3, .int .i64 q4, .int .i64 u] 74)) = w6 at *
  gi_wp2
  refine wpIn_rangeG (gf := 66) (lb := #[.pointer (some ⟨w4.heap.size + 1, 0, none⟩)]) rfl (enters_of Try.func66 (by kernel_rfl) rfl) (fun s : Int × Int => #[.int .i64 s.1, .int .i64 s.2]) hit (Nat.le_refl _) (fun b hb => ⟨by subst hb; exact hz6, rfl⟩) (fun _ => rfl)
    (fun k O X => (∀ b, O b → w6.heap.size ≤ b) ∧ w6.heap.size ≤ X.heap.size ∧ Below w.heap.size w X ∧ Blk X w.heap.size 24 (qC (addT (q1, q2, q3, q4) u k)).toArray)
    (fun _ _ _ => False) ?_ (fun _ _ _ _ _ h _ => h) ?_ ?body ?done ?stop
  · rintro k O O' X X' ⟨h1, h2, h3, h4⟩ st
    exact ⟨O_step st h1 h2, Nat.le_trans h2 st.size, st.below h3 (by have := h3.size; omega) (fun b hb => by have := h1 b hb; omega), ⟨Nat.lt_of_lt_of_le h4.lt st.size, (st.keep _ h4.lt (fun h => by have := h1 _ h; omega)).trans h4.at_⟩⟩
  · exact ⟨fun b hb => hb.elim, Nat.le_refl _, HB6.out, X6.out⟩
  case body =>
    rintro lp k ⟨t, s⟩ O X hx ⟨h1, h2, h3, h4⟩ hO hz
    have hk : k < 4 := lt_of_get hx
    rw [HG.out k hk] at hx
    simp only [Option.some.injEq, Prod.mk.injEq] at hx
    obtain ⟨rfl, rfl⟩ := hx
    have hkz : (k : Int) < 4 := by omega
    have HS := hide (qC_set (addT (q1, q2, q3, q4) u k) k hk (u + path (q1, q2, q3, q4) (k : Int)))
    have HC := hide (qC_get (addT (q1, q2, q3, q4) u k) k hk)
    have HA := hide (show addT (q1, q2, q3, q4) u (k + 1) = qs (addT (q1, q2, q3, q4) u k) (k : Int) (u + path (q1, q2, q3, q4) (k : Int)) from rfl)
    generalize path (q1, q2, q3, q4) (k : Int) = v at *
    have H1 := hide h1
    have HO := hide hO
    clear hit h1 hO HE
    gi_wp2
    refine ⟨Kept.refl _ _, fun W2 st hz2 => ?_⟩
    have a3 : Below w.heap.size w W2 := st.below h3 (by have := h3.size; omega) (fun b hb => by have := H1.out b hb; omega)
    have a4 : Blk W2 w.heap.size 24 (qC (addT (q1, q2, q3, q4) u k)).toArray := ⟨Nat.lt_of_lt_of_le h4.lt st.size, (st.keep _ h4.lt (fun h => by have := H1.out _ h; omega)).trans h4.at_⟩
    have c1 := a4.cell k HC.out
    have z1 := a4.thaw k
    have hl := a4.lt
    have HR := hide (And.intro a3 a4)
    clear h3 h4 st a3 a4
    gi_wp2
    obtain ⟨a3, a4⟩ := HR.out
    refine ⟨(Kept.refl _ _).setCell _ (by rintro (h | h); (have := HO.out _ h; dsimp only at this; omega); (dsimp only at h; omega)), H1.out, by simp [World.setCell]; omega, a3.setCell (by dsimp only; omega) _, ?_⟩
    rw [HA.out]
    exact a4.set k _ HS.out
  case done =>
    rintro O X ⟨h1, h2, h3, h4⟩ hO hD hOD hz
    have h4 : Blk X w.heap.size 24 (qC (addT (q1, q2, q3, q4) u 4)).toArray := h4
    generalize addT (q1, q2, q3, q4) u 4 = r at h4 HE
    obtain ⟨r1, r2, r3, r4⟩ := r
    have hl := h4.lt
    have c0 := h4.cell (v := .int .i64 r1) 0 rfl
    have c1 := h4.cell (v := .int .i64 r2) 1 rfl
    have c2 := h4.cell (v := .int .i64 r3) 2 rfl
    have c3 := h4.cell (v := .int .i64 r4) 3 rfl
    have t0 := h4.thaw 0
    have t1 := h4.thaw 1
    have t2 := h4.thaw 2
    have t3 := h4.thaw 3
    obtain ⟨wf, hwf, Xf, hBf⟩ := fourQ (show Blk X w.heap.size 24 #[.int .i64 r1, .int .i64 r2, .int .i64 r3, .int .i64 r4] from h4) (.int .i64 r1) (.int .i64 r2) (.int .i64 r3) (.int .i64 r4)
    have hDf : wf.heap[w6.heap.size]? = some (.deferred (some [])) := by
      rw [← hwf]
      exact set_other (set_other (set_other (set_other hD (by dsimp only; omega)) (by dsimp only; omega)) (by dsimp only; omega)) (by dsimp only; omega)
    have gg : Blk (wf.putObj w6.heap.size (.deferred none)) w.heap.size 24 #[.int .i64 r1, .int .i64 r2, .int .i64 r3, .int .i64 r4] := ⟨by simp only [World.putObj_size]; exact Xf.lt, (World.putObj_heap_other (by omega)).trans Xf.at_⟩
    have HF := hide (below_put (hBf w.heap.size w (Nat.le_refl _) h3) (.deferred none) (show w.heap.size ≤ w6.heap.size by omega))
    have HWF := hide hwf
    have HGG := hide gg
    have HDF := hide hDf
    clear hit hwf Xf hBf hD h3 h4 gg hDf
    gi_wp2
    rw [HWF.out]
    have p0 := HGG.out.cell (v := .int .i64 r1) 0 rfl
    have p1 := HGG.out.cell (v := .int .i64 r2) 1 rfl
    have p2 := HGG.out.cell (v := .int .i64 r3) 2 rfl
    have p3 := HGG.out.cell (v := .int .i64 r4) 3 rfl
    exact leaves_mark1 (v := .tuple #[.agg #[.int .i64 r1, .int .i64 r2, .int .i64 r3, .int .i64 r4], .int .i64 0]) HDF.out (by simp [results, Try.results26, go_sem, p0, p1, p2, p3]) ⟨by rw [HE.out]; rfl, HF.out⟩
  case stop =>
    rintro c O W h
    exact h.elim
end Go.Proofs.Ytklndmnhhakmiaa
