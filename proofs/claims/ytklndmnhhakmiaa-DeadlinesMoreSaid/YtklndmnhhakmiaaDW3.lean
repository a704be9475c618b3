/-
  deadlines: the iterator over the stages of a language.
-/
import Derived.Test.YtklndmnhhakmiaaDW2
import Derived.Test.YtklndmnhhakmiaaBase2
import Derived.LoopIn
namespace Go.Proofs.Ytklndmnhhakmiaa
open Go.RowKit Go.Mine Go.Mine.B
attribute [local go_sem] Oper.semAt_some
/-- the stages, each with its time -/
def stL (q : Q) (u : Int) : List (Int × Int) := [(0, u + path q 0), (1, u + path q 1), (2, u + path q 2), (3, u + path q 3)]
theorem stL_get (q : Q) (u : Int) {k : Nat} (hk : k < 4) : (stL q u)[k]? = some ((k : Int), u + path q (k : Int)) := by
  have h : k = 0 ∨ k = 1 ∨ k = 2 ∨ k = 3 := by omega
  rcases h with rfl | rfl | rfl | rfl <;> rfl
theorem path_psum (q : Q) (k : Nat) : path q (k : Int) = psum q (k + 1) := by
  unfold psum; rw [if_neg (by omega), show ((k + 1 : Nat) : Int) - 1 = (k : Int) by omega]
theorem idx24 (a b c d : Int) (w : World) : Sem.run Try.prog (Instr.index 24 (.agg #[.int .i64 a, .int .i64 b, .int .i64 c, .int .i64 d]) (.int .i64 0)) w = .ok (.int .i64 a) w ∧ Sem.run Try.prog (Instr.index 24 (.agg #[.int .i64 a, .int .i64 b, .int .i64 c, .int .i64 d]) (.int .i64 1)) w = .ok (.int .i64 b) w ∧ Sem.run Try.prog (Instr.index 24 (.agg #[.int .i64 a, .int .i64 b, .int .i64 c, .int .i64 d]) (.int .i64 2)) w = .ok (.int .i64 c) w ∧ Sem.run Try.prog (Instr.index 24 (.agg #[.int .i64 a, .int .i64 b, .int .i64 c, .int .i64 d]) (.int .i64 3)) w = .ok (.int .i64 d) w := by
  refine ⟨?_, ?_, ?_, ?_⟩ <;> simp [Instr.index, Sem.run_bind, run_underlying Try.underlying24, Result.andThen_ok, Try.sizeOf3, part, go_sem]
set_option maxHeartbeats 4000000 in
theorem stages66_iter (y : Bu) (u : Int) (w1 : World) (B : Nat) (X : Blk w1 B 74 (wdC y u).toArray) (hq : okQ y.q) (hu : timeB u = true) :
    Iter Try.prog 66 #[.pointer (some ⟨B, 0, none⟩)] ((stL y.q u).map fun s => #[.int .i64 s.1, .int .i64 s.2]) (fun x => x = B) w1 := by
  intro n lp J Jx W hw hR hJ hJx hY h0
  have hBW := (hR B rfl).2.trans X.at_
  have XW : Blk W B 74 (wdC y u).toArray := ⟨(Array.getElem?_eq_some_iff.1 hBW).1, hBW⟩
  have hu1 := timeB_iff.1 hu
  have HPB := hide (fun k => psum_ok hq k)
  have HSG := hide (fun k hk => stL_get y.q u (k := k) hk)
  have HPP := hide (fun k => path_psum y.q k)
  have HPN := hide (fun k hk => psum_next y.q (k := k) hk)
  obtain ⟨yn, q1, q2, q3, q4⟩ := y
  have HQ := hide (show ∀ k, qg (q1, q2, q3, q4) k = qg (q1, q2, q3, q4) k from fun _ => rfl)
  have c1 := XW.cell (v := .int .i64 q1) 1 rfl
  have c2 := XW.cell (v := .int .i64 q2) 2 rfl
  have c3 := XW.cell (v := .int .i64 q3) 3 rfl
  have c4 := XW.cell (v := .int .i64 q4) 4 rfl
  have c5 := XW.cell (v := .int .i64 u) 5 rfl
  have hBl := XW.lt
  have HY := hide @hY
  have HJ := hide @hJ
  have H0 := hide h0
  clear hY hJ hJx h0 hR hBW XW X hq hu
  refine callsIn_of_wp Try.func66 rfl trivial ?_ rfl
  simp only [Try.ntmps66, List.size_toArray, List.length_cons, List.length_nil, Nat.reduceAdd, Nat.reduceSub, Array.replicate_succ, Array.replicate_zero, List.push_toArray, List.append_toArray, List.nil_append, List.cons_append]
  gi_wp2
  gi_loopw [3, 4, 5, 11] (fun v _ _ i wr => ∃ (k : Nat) (O : Nat → Prop), k ≤ 4 ∧ i = .int .i64 k ∧ v = .int .i64 (u + psum (q1, q2, q3, q4) k) ∧ Hid (J k O wr) ∧ Hid (∀ x, O x → W.heap.size ≤ x ∧ x < wr.heap.size) ∧ W.heap.size ≤ wr.heap.size) (fun _ _ _ i _ => 4 - (nI i).toNat)
  case atStart => exact ⟨0, _, by omega, rfl, by simp [psum], H0, fun _ h => h.elim, Nat.le_refl _⟩
  case round =>
    obtain ⟨k, O, hk, rfl, rfl, HJ1, HO, hz⟩ := hrel
    by_cases hk4 : k < 4
    · have hY' := HY.out k _ O wr (by rw [List.getElem?_map, HSG.out k hk4]; rfl) HJ1.out HO.out hz
      have hpb := HPB.out (k + 1)
      have hpn := HPN.out k hk4
      have hkz : (k : Int) < 4 := by omega
      rw [HPP.out k] at hY'
      simp only at hpb hpn hY'
      rw [hpn] at hpb hY'
      have HPN2 := hide hpn
      clear hpn
      obtain ⟨fn, tmps, assign, body, hy, hRR⟩ := hY'
      generalize psum (q1, q2, q3, q4) k = v at *
      have hks : k = 0 ∨ k = 1 ∨ k = 2 ∨ k = 3 := by omega
      clear hkz hk hk4 HPB HSG HPP HPN HQ
      rcases hks with rfl | rfl | rfl | rfl
      · rw [show qg (q1, q2, q3, q4) ((0 : Nat) : Int) = q1 from rfl] at hy hpb HPN2
        rw [show ((0 : Nat) : Int) = 0 from rfl] at hy
        have hw2 : IntKind.i64.wrap (u + v + q1) = u + (v + q1) := by rw [IntKind.wrap_i64]; omega
        obtain ⟨i0, i1, i2, i3⟩ := idx24 q1 q2 q3 q4 wr
        have HU := hide (And.intro hu1 hpb)
        clear hu1 hpb
        gi_wp2
        refine hRR.mono ?_
        rintro e W' ⟨hK, (⟨rfl, hj'⟩ | ⟨rfl, hjx⟩)⟩
        · gi_wp2
          go_roundw
          case rel =>
            refine ⟨1, O, by omega, by go_num, by rw [HPN2.out], hj', fun x hx => ?_, Nat.le_trans hz hK.size⟩
            have := HO.out x hx; have := hK.size; omega
          case measure => simp [nI]
        · gi_wp2
          refine bodyPost_ret (results_none rfl _ _ _) rfl ?_
          exact ⟨⟨_, rfl⟩, O, fun x hx => by have := HO.out x hx; have := hK.size; omega, Nat.le_trans hz hK.size, .inr hjx⟩
      · rw [show qg (q1, q2, q3, q4) ((1 : Nat) : Int) = q2 from rfl] at hy hpb HPN2
        rw [show ((1 : Nat) : Int) = 1 from rfl] at hy
        have hw2 : IntKind.i64.wrap (u + v + q2) = u + (v + q2) := by rw [IntKind.wrap_i64]; omega
        obtain ⟨i0, i1, i2, i3⟩ := idx24 q1 q2 q3 q4 wr
        have HU := hide (And.intro hu1 hpb)
        clear hu1 hpb
        gi_wp2
        refine hRR.mono ?_
        rintro e W' ⟨hK, (⟨rfl, hj'⟩ | ⟨rfl, hjx⟩)⟩
        · gi_wp2
          go_roundw
          case rel =>
            refine ⟨2, O, by omega, by go_num, by rw [HPN2.out], hj', fun x hx => ?_, Nat.le_trans hz hK.size⟩
            have := HO.out x hx; have := hK.size; omega
          case measure => simp [nI]
        · gi_wp2
          refine bodyPost_ret (results_none rfl _ _ _) rfl ?_
          exact ⟨⟨_, rfl⟩, O, fun x hx => by have := HO.out x hx; have := hK.size; omega, Nat.le_trans hz hK.size, .inr hjx⟩
      · rw [show qg (q1, q2, q3, q4) ((2 : Nat) : Int) = q3 from rfl] at hy hpb HPN2
        rw [show ((2 : Nat) : Int) = 2 from rfl] at hy
        have hw2 : IntKind.i64.wrap (u + v + q3) = u + (v + q3) := by rw [IntKind.wrap_i64]; omega
        obtain ⟨i0, i1, i2, i3⟩ := idx24 q1 q2 q3 q4 wr
        have HU := hide (And.intro hu1 hpb)
        clear hu1 hpb
        gi_wp2
        refine hRR.mono ?_
        rintro e W' ⟨hK, (⟨rfl, hj'⟩ | ⟨rfl, hjx⟩)⟩
        · gi_wp2
          go_roundw
          case rel =>
            refine ⟨3, O, by omega, by go_num, by rw [HPN2.out], hj', fun x hx => ?_, Nat.le_trans hz hK.size⟩
            have := HO.out x hx; have := hK.size; omega
          case measure => simp [nI]
        · gi_wp2
          refine bodyPost_ret (results_none rfl _ _ _) rfl ?_
          exact ⟨⟨_, rfl⟩, O, fun x hx => by have := HO.out x hx; have := hK.size; omega, Nat.le_trans hz hK.size, .inr hjx⟩
      · rw [show qg (q1, q2, q3, q4) ((3 : Nat) : Int) = q4 from rfl] at hy hpb HPN2
        rw [show ((3 : Nat) : Int) = 3 from rfl] at hy
        have hw2 : IntKind.i64.wrap (u + v + q4) = u + (v + q4) := by rw [IntKind.wrap_i64]; omega
        obtain ⟨i0, i1, i2, i3⟩ := idx24 q1 q2 q3 q4 wr
        have HU := hide (And.intro hu1 hpb)
        clear hu1 hpb
        gi_wp2
        refine hRR.mono ?_
        rintro e W' ⟨hK, (⟨rfl, hj'⟩ | ⟨rfl, hjx⟩)⟩
        · gi_wp2
          go_roundw
          case rel =>
            refine ⟨4, O, by omega, by go_num, by rw [HPN2.out], hj', fun x hx => ?_, Nat.le_trans hz hK.size⟩
            have := HO.out x hx; have := hK.size; omega
          case measure => simp [nI]
        · gi_wp2
          refine bodyPost_ret (results_none rfl _ _ _) rfl ?_
          exact ⟨⟨_, rfl⟩, O, fun x hx => by have := HO.out x hx; have := hK.size; omega, Nat.le_trans hz hK.size, .inr hjx⟩
    · obtain rfl : k = 4 := by omega
      clear c1 c2 c3 c4 c5
      gi_wp2
      refine bodyPost_end (results_none rfl _ _ _) rfl ?_
      exact ⟨⟨_, rfl⟩, O, HO.out, hz, .inl HJ1.out⟩
end Go.Proofs.Ytklndmnhhakmiaa
