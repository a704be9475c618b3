/-
  spans.states: the iterator yields the states of two lists.
-/
import Derived.Test.YtbfgbkblblnbhaaSBord
namespace Go.Proofs.Ytbfgbkblblnbhaa
open Go.RowKit Go.Shelf Go.Mine Go.Mine.H Go.Mine.S
attribute [local go_sem] Oper.semAt_some

def encS (s : St) : Value := .agg #[.int .i64 s.1, .bool s.2.1, .bool s.2.2]
theorem Sl.heap {α : Type} {f : α → List Value} {sz : Nat} {w w' : World} {A : Option Addr} {c : Nat} {l : List α} (h : Sl f sz w A c l) (hk : ∀ x, x < w.heap.size → w'.heap[x]? = w.heap[x]?) (hz : w.heap.size ≤ w'.heap.size) : Sl f sz w' A c l :=
  ⟨h.le, h.max, h.size, fun hn => by
    obtain ⟨b, off, e, hbw, hc⟩ := h.cells hn
    exact ⟨b, off, e, Nat.lt_of_lt_of_le hbw hz, fun i v hv => (World.cell?_of_block (a := ⟨b, off + i, none⟩) (hk b hbw)).trans (hc i v hv)⟩⟩
theorem drop_cons {α : Type} {l : List α} {j : Nat} {s : α} {r : List α} (h : l.drop j = s :: r) : l[j]? = some s ∧ l.drop (j + 1) = r ∧ j < l.length := by
  have h1 : j < l.length := by
    rcases Nat.lt_or_ge j l.length with h' | h'
    · exact h'
    · rw [List.drop_of_length_le h'] at h; cases h
  rw [List.drop_eq_getElem_cons h1] at h
  injection h with e1 e2
  exact ⟨by rw [List.getElem?_eq_getElem h1, e1], e2, h1⟩
set_option maxHeartbeats 4000000 in
theorem states1_iter (w0 w1 : World) (A A' : Option Addr) (c c' : Nat) (a b : List Sp) (hSa : Sl bc 2 w0 A c a) (hSb : Sl bc 2 w0 A' c' b) (ga : good (-1) a) (gb : good (-1) b) (la : a.length ≤ 4096) (lb : b.length ≤ 4096) (hb : Below w0.heap.size w0 w1)
    (B : Nat) (hB : w0.heap.size ≤ B) (c0 : w1.cell? ⟨B, 0, none⟩ = some (.slice A a.length c)) (c1 : w1.cell? ⟨B + 1, 0, none⟩ = some (.slice A' b.length c')) (hB2 : B + 2 ≤ w1.heap.size) :
    Iter Try.prog 71 #[.pointer (some ⟨B, 0, none⟩), .pointer (some ⟨B + 1, 0, none⟩)] ((st false false (ends a) (ends b)).map fun s => #[encS s])
      (fun x => x < w0.heap.size ∨ (B ≤ x ∧ x < B + 2)) w1 := by
  intro n lp J Jx W hw hR hJ hJx hY h0
  have ea := ends_length a
  have eb := ends_length b
  refine callsIn_of_wp Try.func71 rfl trivial ?_ rfl
  simp only [Try.ntmps71, List.size_toArray, List.length_cons, List.length_nil, Nat.reduceAdd, Nat.reduceSub, Array.replicate_succ, Array.replicate_zero, List.push_toArray, List.append_toArray, List.nil_append, List.cons_append]
  gi_wp2
  gi_loopw [4, 5] (fun v u wr => ∃ (i k j : Nat) (O : Nat → Prop), v = .int .i64 i ∧ u = .int .i64 k ∧ i ≤ 2 * a.length ∧ k ≤ 2 * b.length ∧ j ≤ (st false false (ends a) (ends b)).length ∧
      (st false false (ends a) (ends b)).drop j = st (pb i) (pb k) ((ends a).drop i) ((ends b).drop k) ∧ J j O wr ∧ (∀ x, O x → W.heap.size ≤ x ∧ x < wr.heap.size) ∧ W.heap.size ≤ wr.heap.size ∧
      (∀ x, (x < w0.heap.size ∨ (B ≤ x ∧ x < B + 2)) → wr.heap[x]? = W.heap[x]?)) (fun v u _ => 2 * a.length + 2 * b.length - (intOf v).toNat - (intOf u).toNat)
  case atStart => exact ⟨0, 0, 0, _, rfl, rfl, by omega, by omega, by omega, rfl, h0, fun _ h => h.elim, Nat.le_refl _, fun _ _ => rfl⟩
  case round =>
    obtain ⟨i, k, j, O, rfl, rfl, hi, hk, hj, hst, hJ1, hO, hz, hkeep⟩ := hrel
    have hHeap : ∀ x, (x < w0.heap.size ∨ (B ≤ x ∧ x < B + 2)) → wr.heap[x]? = w1.heap[x]? := fun x h => (hkeep x h).trans (hR x h).2
    have e0 : wr.cell? ⟨B, 0, none⟩ = some (.slice A a.length c) := (World.cell?_of_block (a := ⟨B, 0, none⟩) (hHeap B (.inr (by omega)))).trans c0
    have e1 : wr.cell? ⟨B + 1, 0, none⟩ = some (.slice A' b.length c') := (World.cell?_of_block (a := ⟨B + 1, 0, none⟩) (hHeap (B + 1) (.inr (by omega)))).trans c1
    have hSa' : Sl bc 2 wr.drew A c a := Sl.heap hSa (fun x hx => (hHeap x (.inl hx)).trans (hb.block x hx)) (by have := hb.size; simp; omega)
    have hSb' : Sl bc 2 wr.drew A' c' b := Sl.heap hSb (fun x hx => (hHeap x (.inl hx)).trans (hb.block x hx)) (by have := hb.size; simp; omega)
    by_cases hlt : i < (ends a).length ∨ k < (ends b).length
    · have KA := border_any A c a i wr.drew hSa' la (by omega)
      have KB := border_any A' c' b k wr.drew hSb' lb (by omega)
      have hX := bdL_range ga i
      have hY2 := bdL_range gb k
      have hJd := hJ _ _ _ _ _ hJ1 (IStep.refl O wr).drew
      have hw1 : (decide ((i : Int) < 2 * (a.length : Int)) = true) ∨ (decide ((i : Int) < 2 * (a.length : Int)) = false ∧ decide ((k : Int) < 2 * (b.length : Int)) = true) := by
        by_cases h : i < 2 * a.length
        · left; simp; omega
        · right; constructor
          · simp; omega
          · simp; omega
      have hstep := st_step a b ga gb i k hlt
      rw [← hst] at hstep
      have p1 := pb_int (i + 1)
      have p2 := pb_int (k + 1)
      have p3 := pb_int i
      have p4 := pb_int k
      simp only [Int.natCast_add, Int.natCast_one] at p1 p2
      have hlen : ∀ s r, (st false false (ends a) (ends b)).drop j = s :: r → (st false false (ends a) (ends b))[j]? = some s ∧ (st false false (ends a) (ends b)).drop (j + 1) = r ∧ j < (st false false (ends a) (ends b)).length := fun s r h => drop_cons h
      generalize bdL a i = X at *
      generalize bdL b k = Y at *
      have HY := hide @hY
      have HO := hide hO
      have Hk := hide hkeep
      have Hst := hide hst
      have HL := hide hlen
      have HJ := hide hJd
      clear hY hR hkeep hHeap hO hst hlen hJ1 hJd hSa' hSb' hSa hSb hJ hJx hb c0 c1
      rcases hstep with ⟨cX, hi', hs⟩ | ⟨cX, hk', hs⟩ | ⟨cX, hi', hk', hs⟩
      · obtain ⟨q1, q2, q3⟩ := HL.out _ _ hs
        have HS := hide q2
        have hY' := HY.out _ _ O wr.drew (by rw [List.getElem?_map, q1]; rfl) HJ.out HO.out hz
        have b1 : (X == X) = true := by simp
        have b2 : (Y == X) = false := by simp; omega
        have hif : (if Y < X then Y else X) = X := by split <;> omega
        have hif' : (if X < Y then X else Y) = X := by split <;> omega
        clear q1 q2 hs HL Hst
        rcases hw1 with w1' | ⟨w1', w2'⟩
        all_goals
          obtain ⟨fn, tmps, assign, body, hy, hRR⟩ := hY'
          simp only [encS] at hy
          gi_wp2
          refine wpIn_region_still_lit (ro := none) (by kernel_rfl) (by kernel_rfl) ?_
          ((with_reducible refine wpStill_step (fun K hK => ?_)); go_simp; (try go_bits); (with_reducible refine hK _ ?_); clear hK K)
          ((with_reducible refine wpStill_step (fun K hK => ?_)); go_simp; (try go_bits); (with_reducible refine hK _ ?_); clear hK K)
          ((with_reducible refine wpStill_step (fun K hK => ?_)); go_simp; refine ⟨_, KA, ?_⟩; (with_reducible refine hK _ ?_); clear hK K)
          ((with_reducible refine wpStill_step (fun K hK => ?_)); go_simp; (try go_bits); (with_reducible refine hK _ ?_); clear hK K)
          ((with_reducible refine wpStill_step (fun K hK => ?_)); go_simp; (try go_bits); (with_reducible refine hK _ ?_); clear hK K)
          ((with_reducible refine wpStill_step (fun K hK => ?_)); go_simp; refine ⟨_, KB, ?_⟩; (with_reducible refine hK _ ?_); clear hK K)
          ((with_reducible refine wpStill_step (fun K hK => ?_)); go_simp; (try go_bits); (with_reducible refine hK _ ?_); clear hK K)
          ((with_reducible refine wpStill_step (fun K hK => ?_)); go_simp; (try go_bits); (with_reducible refine hK _ ?_); clear hK K)
          (with_reducible refine wpStill_nil ?_)
          gi_wp2_with (gi_at_call 72; first | ((with_reducible refine (callsIn_wide.2 KA).mono ?_); rintro e w' ⟨rfl, rfl⟩) | ((with_reducible refine (callsIn_wide.2 KB).mono ?_); rintro e w' ⟨rfl, rfl⟩))
          gi_wp2
          refine hRR.mono ?_
          rintro e W' ⟨hK, (⟨rfl, hj'⟩ | ⟨rfl, hjx⟩)⟩
          · gi_wp2
            go_roundw
            case rel =>
              refine ⟨i + 1, k, j + 1, O, by go_num, by go_num, by omega, by omega, by omega, HS.out, hj', fun x hx => ?_, Nat.le_trans hz hK.size, fun x hx => ?_⟩
              · have := HO.out x hx; have := hK.size; simp at this; omega
              · exact (hK.keep x (by have := hw; simp; omega) (.inr hx)).trans (Hk.out x hx)
            case measure => simp [intOf]; omega
          · gi_wp2
            refine bodyPost_ret (results_none rfl _ _ _) rfl ?_
            exact ⟨⟨_, rfl⟩, O, fun x hx => by have := HO.out x hx; have := hK.size; simp at this; omega, Nat.le_trans hz hK.size, .inr hjx⟩
      · obtain ⟨q1, q2, q3⟩ := HL.out _ _ hs
        have HS := hide q2
        have hY' := HY.out _ _ O wr.drew (by rw [List.getElem?_map, q1]; rfl) HJ.out HO.out hz
        have b1 : (X == Y) = false := by simp; omega
        have b2 : (Y == Y) = true := by simp
        have hif : (if Y < X then Y else X) = Y := by split <;> omega
        have hif' : (if X < Y then X else Y) = Y := by split <;> omega
        clear q1 q2 hs HL Hst
        rcases hw1 with w1' | ⟨w1', w2'⟩
        all_goals
          obtain ⟨fn, tmps, assign, body, hy, hRR⟩ := hY'
          simp only [encS] at hy
          gi_wp2
          refine wpIn_region_still_lit (ro := none) (by kernel_rfl) (by kernel_rfl) ?_
          ((with_reducible refine wpStill_step (fun K hK => ?_)); go_simp; (try go_bits); (with_reducible refine hK _ ?_); clear hK K)
          ((with_reducible refine wpStill_step (fun K hK => ?_)); go_simp; (try go_bits); (with_reducible refine hK _ ?_); clear hK K)
          ((with_reducible refine wpStill_step (fun K hK => ?_)); go_simp; refine ⟨_, KA, ?_⟩; (with_reducible refine hK _ ?_); clear hK K)
          ((with_reducible refine wpStill_step (fun K hK => ?_)); go_simp; (try go_bits); (with_reducible refine hK _ ?_); clear hK K)
          ((with_reducible refine wpStill_step (fun K hK => ?_)); go_simp; (try go_bits); (with_reducible refine hK _ ?_); clear hK K)
          ((with_reducible refine wpStill_step (fun K hK => ?_)); go_simp; refine ⟨_, KB, ?_⟩; (with_reducible refine hK _ ?_); clear hK K)
          ((with_reducible refine wpStill_step (fun K hK => ?_)); go_simp; (try go_bits); (with_reducible refine hK _ ?_); clear hK K)
          ((with_reducible refine wpStill_step (fun K hK => ?_)); go_simp; (try go_bits); (with_reducible refine hK _ ?_); clear hK K)
          (with_reducible refine wpStill_nil ?_)
          gi_wp2_with (gi_at_call 72; first | ((with_reducible refine (callsIn_wide.2 KA).mono ?_); rintro e w' ⟨rfl, rfl⟩) | ((with_reducible refine (callsIn_wide.2 KB).mono ?_); rintro e w' ⟨rfl, rfl⟩))
          gi_wp2
          refine hRR.mono ?_
          rintro e W' ⟨hK, (⟨rfl, hj'⟩ | ⟨rfl, hjx⟩)⟩
          · gi_wp2
            go_roundw
            case rel =>
              refine ⟨i, k + 1, j + 1, O, by go_num, by go_num, by omega, by omega, by omega, HS.out, hj', fun x hx => ?_, Nat.le_trans hz hK.size, fun x hx => ?_⟩
              · have := HO.out x hx; have := hK.size; simp at this; omega
              · exact (hK.keep x (by have := hw; simp; omega) (.inr hx)).trans (Hk.out x hx)
            case measure => simp [intOf]; omega
          · gi_wp2
            refine bodyPost_ret (results_none rfl _ _ _) rfl ?_
            exact ⟨⟨_, rfl⟩, O, fun x hx => by have := HO.out x hx; have := hK.size; simp at this; omega, Nat.le_trans hz hK.size, .inr hjx⟩
      · subst cX
        obtain ⟨q1, q2, q3⟩ := HL.out _ _ hs
        have HS := hide q2
        have hY' := HY.out _ _ O wr.drew (by rw [List.getElem?_map, q1]; rfl) HJ.out HO.out hz
        have b1 : (X == X) = true := by simp
        have hif : (if X < X then X else X) = X := by split <;> omega
        clear q1 q2 hs HL Hst
        rcases hw1 with w1' | ⟨w1', w2'⟩
        all_goals
          obtain ⟨fn, tmps, assign, body, hy, hRR⟩ := hY'
          simp only [encS] at hy
          gi_wp2
          refine wpIn_region_still_lit (ro := none) (by kernel_rfl) (by kernel_rfl) ?_
          ((with_reducible refine wpStill_step (fun K hK => ?_)); go_simp; (try go_bits); (with_reducible refine hK _ ?_); clear hK K)
          ((with_reducible refine wpStill_step (fun K hK => ?_)); go_simp; (try go_bits); (with_reducible refine hK _ ?_); clear hK K)
          ((with_reducible refine wpStill_step (fun K hK => ?_)); go_simp; refine ⟨_, KA, ?_⟩; (with_reducible refine hK _ ?_); clear hK K)
          ((with_reducible refine wpStill_step (fun K hK => ?_)); go_simp; (try go_bits); (with_reducible refine hK _ ?_); clear hK K)
          ((with_reducible refine wpStill_step (fun K hK => ?_)); go_simp; (try go_bits); (with_reducible refine hK _ ?_); clear hK K)
          ((with_reducible refine wpStill_step (fun K hK => ?_)); go_simp; refine ⟨_, KB, ?_⟩; (with_reducible refine hK _ ?_); clear hK K)
          ((with_reducible refine wpStill_step (fun K hK => ?_)); go_simp; (try go_bits); (with_reducible refine hK _ ?_); clear hK K)
          ((with_reducible refine wpStill_step (fun K hK => ?_)); go_simp; (try go_bits); (with_reducible refine hK _ ?_); clear hK K)
          (with_reducible refine wpStill_nil ?_)
          gi_wp2_with (gi_at_call 72; first | ((with_reducible refine (callsIn_wide.2 KA).mono ?_); rintro e w' ⟨rfl, rfl⟩) | ((with_reducible refine (callsIn_wide.2 KB).mono ?_); rintro e w' ⟨rfl, rfl⟩))
          gi_wp2
          refine hRR.mono ?_
          rintro e W' ⟨hK, (⟨rfl, hj'⟩ | ⟨rfl, hjx⟩)⟩
          · gi_wp2
            go_roundw
            case rel =>
              refine ⟨i + 1, k + 1, j + 1, O, by go_num, by go_num, by omega, by omega, by omega, HS.out, hj', fun x hx => ?_, Nat.le_trans hz hK.size, fun x hx => ?_⟩
              · have := HO.out x hx; have := hK.size; simp at this; omega
              · exact (hK.keep x (by have := hw; simp; omega) (.inr hx)).trans (Hk.out x hx)
            case measure => simp [intOf]; omega
          · gi_wp2
            refine bodyPost_ret (results_none rfl _ _ _) rfl ?_
            exact ⟨⟨_, rfl⟩, O, fun x hx => by have := HO.out x hx; have := hK.size; simp at this; omega, Nat.le_trans hz hK.size, .inr hjx⟩
    · have h1 : (ends a).length ≤ i := by omega
      have h2 : (ends b).length ≤ k := by omega
      rw [st_done a b i k _ _ h1 h2] at hst
      have hjj : j = (st false false (ends a) (ends b)).length := by
        have := congrArg List.length hst
        simp at this; omega
      have g1 : decide ((i : Int) < 2 * (a.length : Int)) = false := by simp; omega
      have g2 : decide ((k : Int) < 2 * (b.length : Int)) = false := by simp; omega
      have HO := hide hO
      clear hst hY hR hkeep hHeap hO hSa' hSb'
      gi_wp2
      go_end0
      exact ⟨⟨_, rfl⟩, O, HO.out, hz, .inl (by rw [List.length_map, ← hjj]; exact hJ1)⟩
end Go.Proofs.Ytbfgbkblblnbhaa
