/-
  spans.states: the iterator yields the states of two lists.
  spans.states and spans.result.
  spans.result at the three rules.
-/
import Derived.Test.YtchdoamoeccjkaaVM8
import Derived.Test.YtchdoamoeccjkaaBase2
import Derived.Test.YtchdoamoeccjkaaPushIn
namespace Go.Proofs.Ytchdoamoeccjkaa
open Go.RowKit Go.Shelf Go.Mine Go.Mine.S
attribute [local go_sem] Oper.semAt_some

def encS (s : St) : Value := .agg #[.int .i64 s.1, .bool s.2.1, .bool s.2.2]


set_option maxHeartbeats 4000000 in
theorem states1_iter (w0 w1 : World) (A A' : Option Addr) (c c' : Nat) (a b : List Sp) (hSa : Sl spc 2 w0 A c a) (hSb : Sl spc 2 w0 A' c' b) (ga : good (-1) a) (gb : good (-1) b) (la : a.length ≤ 4096) (lb : b.length ≤ 4096) (hb : Below w0.heap.size w0 w1)
    (B : Nat) (hB : w0.heap.size ≤ B) (c0 : w1.cell? ⟨B, 0, none⟩ = some (.slice A a.length c)) (c1 : w1.cell? ⟨B + 1, 0, none⟩ = some (.slice A' b.length c')) (hB2 : B + 2 ≤ w1.heap.size) :
    Iter Try.prog 88 #[.pointer (some ⟨B, 0, none⟩), .pointer (some ⟨B + 1, 0, none⟩)] ((st false false (ends a) (ends b)).map fun s => #[encS s])
      (fun x => x < w0.heap.size ∨ (B ≤ x ∧ x < B + 2)) w1 := by
  intro n lp J Jx W hw hR hJ hJx hY h0
  have ea := ends_length a
  have eb := ends_length b
  refine callsIn_of_wp Try.func88 rfl trivial ?_ rfl
  simp only [Try.ntmps88, List.size_toArray, List.length_cons, List.length_nil, Nat.reduceAdd, Nat.reduceSub, Array.replicate_succ, Array.replicate_zero, List.push_toArray, List.append_toArray, List.nil_append, List.cons_append]
  gi_wp2
  gi_loopw [4, 5] (fun v u wr => ∃ (i k j : Nat) (O : Nat → Prop), v = .int .i64 i ∧ u = .int .i64 k ∧ i ≤ 2 * a.length ∧ k ≤ 2 * b.length ∧ j ≤ (st false false (ends a) (ends b)).length ∧
      (st false false (ends a) (ends b)).drop j = st (pb i) (pb k) ((ends a).drop i) ((ends b).drop k) ∧ J j O wr ∧ (∀ x, O x → W.heap.size ≤ x ∧ x < wr.heap.size) ∧ W.heap.size ≤ wr.heap.size ∧
      (∀ x, (x < w0.heap.size ∨ (B ≤ x ∧ x < B + 2)) → wr.heap[x]? = W.heap[x]?)) (fun v u _ => 2 * a.length + 2 * b.length - (nI v).toNat - (nI u).toNat)
  case atStart => exact ⟨0, 0, 0, _, rfl, rfl, by omega, by omega, by omega, rfl, h0, fun _ h => h.elim, Nat.le_refl _, fun _ _ => rfl⟩
  case round =>
    obtain ⟨i, k, j, O, rfl, rfl, hi, hk, hj, hst, hJ1, hO, hz, hkeep⟩ := hrel
    have hHeap : ∀ x, (x < w0.heap.size ∨ (B ≤ x ∧ x < B + 2)) → wr.heap[x]? = w1.heap[x]? := fun x h => (hkeep x h).trans (hR x h).2
    have e0 : wr.cell? ⟨B, 0, none⟩ = some (.slice A a.length c) := (World.cell?_of_block (a := ⟨B, 0, none⟩) (hHeap B (.inr (by omega)))).trans c0
    have e1 : wr.cell? ⟨B + 1, 0, none⟩ = some (.slice A' b.length c') := (World.cell?_of_block (a := ⟨B + 1, 0, none⟩) (hHeap (B + 1) (.inr (by omega)))).trans c1
    have hSa' : Sl spc 2 wr.drew A c a := Sl.heap hSa (fun x hx => (hHeap x (.inl hx)).trans (hb.block x hx)) (by have := hb.size; simp; omega)
    have hSb' : Sl spc 2 wr.drew A' c' b := Sl.heap hSb (fun x hx => (hHeap x (.inl hx)).trans (hb.block x hx)) (by have := hb.size; simp; omega)
    by_cases hlt : i < (ends a).length ∨ k < (ends b).length
    · have KA := border_any A c a i wr.drew hSa' la (by omega)
      have KB := border_any A' c' b k wr.drew hSb' lb (by omega)
      have hX := bdL_range ga i
      have hY2 := bdL_range gb k
      have hJd := hJ _ _ _ _ _ hJ1 (IStep.refl O wr).drew
      have hw1 : (decide ((i : Int) < 2 * (a.length : Int)) = true) ∨ (decide ((i : Int) < 2 * (a.length : Int)) = false ∧ decide ((k : Int) < 2 * (b.length : Int)) = true) := by
        by_cases h : i < 2 * a.length
        · left; simp; omega
        · right; constructor
          · simp; omega
          · simp; omega
      have hstep := st_step a b ga gb i k hlt
      rw [← hst] at hstep
      have p1 := pb_int (i + 1)
      have p2 := pb_int (k + 1)
      have p3 := pb_int i
      have p4 := pb_int k
      simp only [Int.natCast_add, Int.natCast_one] at p1 p2
      have hlen : ∀ s r, (st false false (ends a) (ends b)).drop j = s :: r → (st false false (ends a) (ends b))[j]? = some s ∧ (st false false (ends a) (ends b)).drop (j + 1) = r ∧ j < (st false false (ends a) (ends b)).length := fun s r h => drop_cons h
      generalize bdL a i = X at *
      generalize bdL b k = Y at *
      have HY := hide @hY
      have HO := hide hO
      have Hk := hide hkeep
      have Hst := hide hst
      have HL := hide hlen
      have HJ := hide hJd
      clear hY hR hkeep hHeap hO hst hlen hJ1 hJd hSa' hSb' hSa hSb hJ hJx hb c0 c1
      rcases hstep with ⟨cX, hi', hs⟩ | ⟨cX, hk', hs⟩ | ⟨cX, hi', hk', hs⟩
      · obtain ⟨q1, q2, q3⟩ := HL.out _ _ hs
        have HS := hide q2
        have hY' := HY.out _ _ O wr.drew (by rw [List.getElem?_map, q1]; rfl) HJ.out HO.out hz
        have b1 : (X == X) = true := by simp
        have b2 : (Y == X) = false := by simp; omega
        have hif : (if Y < X then Y else X) = X := by split <;> omega
        have hif' : (if X < Y then X else Y) = X := by split <;> omega
        have hmn : min X Y = X := by omega
        have hmn' : min Y X = X := by omega
        clear q1 q2 hs HL Hst
        rcases hw1 with w1' | ⟨w1', w2'⟩
        all_goals
          obtain ⟨fn, tmps, assign, body, hy, hRR⟩ := hY'
          simp only [encS] at hy
          gi_wp2
          refine wpIn_region_still_lit (ro := none) (by kernel_rfl) (by kernel_rfl) ?_
          ((with_reducible refine wpStill_step (fun K hK => ?_)); go_simp; (try go_bits); (with_reducible refine hK _ ?_); clear hK K)
          ((with_reducible refine wpStill_step (fun K hK => ?_)); go_simp; (try go_bits); (with_reducible refine hK _ ?_); clear hK K)
          ((with_reducible refine wpStill_step (fun K hK => ?_)); go_simp; refine ⟨_, KA, ?_⟩; (with_reducible refine hK _ ?_); clear hK K)
          ((with_reducible refine wpStill_step (fun K hK => ?_)); go_simp; (try go_bits); (with_reducible refine hK _ ?_); clear hK K)
          ((with_reducible refine wpStill_step (fun K hK => ?_)); go_simp; (try go_bits); (with_reducible refine hK _ ?_); clear hK K)
          ((with_reducible refine wpStill_step (fun K hK => ?_)); go_simp; refine ⟨_, KB, ?_⟩; (with_reducible refine hK _ ?_); clear hK K)
          ((with_reducible refine wpStill_step (fun K hK => ?_)); go_simp; (try go_bits); (with_reducible refine hK _ ?_); clear hK K)
          ((with_reducible refine wpStill_step (fun K hK => ?_)); go_simp; (try go_bits); (with_reducible refine hK _ ?_); clear hK K)
          (with_reducible refine wpStill_nil ?_)
          gi_wp2_with (gi_at_call 89; first | ((with_reducible refine (callsIn_wide.2 KA).mono ?_); rintro e w' ⟨rfl, rfl⟩) | ((with_reducible refine (callsIn_wide.2 KB).mono ?_); rintro e w' ⟨rfl, rfl⟩))
          gi_wp2
          refine hRR.mono ?_
          rintro e W' ⟨hK, (⟨rfl, hj'⟩ | ⟨rfl, hjx⟩)⟩
          · gi_wp2
            go_roundw
            case rel =>
              refine ⟨i + 1, k, j + 1, O, by go_num, by go_num, by omega, by omega, by omega, HS.out, hj', fun x hx => ?_, Nat.le_trans hz hK.size, fun x hx => ?_⟩
              · have := HO.out x hx; have := hK.size; simp at this; omega
              · exact (hK.keep x (by have := hw; simp; omega) (.inr hx)).trans (Hk.out x hx)
            case measure => simp [nI]; omega
          · gi_wp2
            refine bodyPost_ret (results_none rfl _ _ _) rfl ?_
            exact ⟨⟨_, rfl⟩, O, fun x hx => by have := HO.out x hx; have := hK.size; simp at this; omega, Nat.le_trans hz hK.size, .inr hjx⟩
      · obtain ⟨q1, q2, q3⟩ := HL.out _ _ hs
        have HS := hide q2
        have hY' := HY.out _ _ O wr.drew (by rw [List.getElem?_map, q1]; rfl) HJ.out HO.out hz
        have b1 : (X == Y) = false := by simp; omega
        have b2 : (Y == Y) = true := by simp
        have hif : (if Y < X then Y else X) = Y := by split <;> omega
        have hif' : (if X < Y then X else Y) = Y := by split <;> omega
        have hmn : min X Y = Y := by omega
        have hmn' : min Y X = Y := by omega
        clear q1 q2 hs HL Hst
        rcases hw1 with w1' | ⟨w1', w2'⟩
        all_goals
          obtain ⟨fn, tmps, assign, body, hy, hRR⟩ := hY'
          simp only [encS] at hy
          gi_wp2
          refine wpIn_region_still_lit (ro := none) (by kernel_rfl) (by kernel_rfl) ?_
          ((with_reducible refine wpStill_step (fun K hK => ?_)); go_simp; (try go_bits); (with_reducible refine hK _ ?_); clear hK K)
          ((with_reducible refine wpStill_step (fun K hK => ?_)); go_simp; (try go_bits); (with_reducible refine hK _ ?_); clear hK K)
          ((with_reducible refine wpStill_step (fun K hK => ?_)); go_simp; refine ⟨_, KA, ?_⟩; (with_reducible refine hK _ ?_); clear hK K)
          ((with_reducible refine wpStill_step (fun K hK => ?_)); go_simp; (try go_bits); (with_reducible refine hK _ ?_); clear hK K)
          ((with_reducible refine wpStill_step (fun K hK => ?_)); go_simp; (try go_bits); (with_reducible refine hK _ ?_); clear hK K)
          ((with_reducible refine wpStill_step (fun K hK => ?_)); go_simp; refine ⟨_, KB, ?_⟩; (with_reducible refine hK _ ?_); clear hK K)
          ((with_reducible refine wpStill_step (fun K hK => ?_)); go_simp; (try go_bits); (with_reducible refine hK _ ?_); clear hK K)
          ((with_reducible refine wpStill_step (fun K hK => ?_)); go_simp; (try go_bits); (with_reducible refine hK _ ?_); clear hK K)
          (with_reducible refine wpStill_nil ?_)
          gi_wp2_with (gi_at_call 89; first | ((with_reducible refine (callsIn_wide.2 KA).mono ?_); rintro e w' ⟨rfl, rfl⟩) | ((with_reducible refine (callsIn_wide.2 KB).mono ?_); rintro e w' ⟨rfl, rfl⟩))
          gi_wp2
          refine hRR.mono ?_
          rintro e W' ⟨hK, (⟨rfl, hj'⟩ | ⟨rfl, hjx⟩)⟩
          · gi_wp2
            go_roundw
            case rel =>
              refine ⟨i, k + 1, j + 1, O, by go_num, by go_num, by omega, by omega, by omega, HS.out, hj', fun x hx => ?_, Nat.le_trans hz hK.size, fun x hx => ?_⟩
              · have := HO.out x hx; have := hK.size; simp at this; omega
              · exact (hK.keep x (by have := hw; simp; omega) (.inr hx)).trans (Hk.out x hx)
            case measure => simp [nI]; omega
          · gi_wp2
            refine bodyPost_ret (results_none rfl _ _ _) rfl ?_
            exact ⟨⟨_, rfl⟩, O, fun x hx => by have := HO.out x hx; have := hK.size; simp at this; omega, Nat.le_trans hz hK.size, .inr hjx⟩
      · subst cX
        obtain ⟨q1, q2, q3⟩ := HL.out _ _ hs
        have HS := hide q2
        have hY' := HY.out _ _ O wr.drew (by rw [List.getElem?_map, q1]; rfl) HJ.out HO.out hz
        have b1 : (X == X) = true := by simp
        have hif : (if X < X then X else X) = X := by split <;> omega
        clear q1 q2 hs HL Hst
        rcases hw1 with w1' | ⟨w1', w2'⟩
        all_goals
          obtain ⟨fn, tmps, assign, body, hy, hRR⟩ := hY'
          simp only [encS] at hy
          gi_wp2
          refine wpIn_region_still_lit (ro := none) (by kernel_rfl) (by kernel_rfl) ?_
          ((with_reducible refine wpStill_step (fun K hK => ?_)); go_simp; (try go_bits); (with_reducible refine hK _ ?_); clear hK K)
          ((with_reducible refine wpStill_step (fun K hK => ?_)); go_simp; (try go_bits); (with_reducible refine hK _ ?_); clear hK K)
          ((with_reducible refine wpStill_step (fun K hK => ?_)); go_simp; refine ⟨_, KA, ?_⟩; (with_reducible refine hK _ ?_); clear hK K)
          ((with_reducible refine wpStill_step (fun K hK => ?_)); go_simp; (try go_bits); (with_reducible refine hK _ ?_); clear hK K)
          ((with_reducible refine wpStill_step (fun K hK => ?_)); go_simp; (try go_bits); (with_reducible refine hK _ ?_); clear hK K)
          ((with_reducible refine wpStill_step (fun K hK => ?_)); go_simp; refine ⟨_, KB, ?_⟩; (with_reducible refine hK _ ?_); clear hK K)
          ((with_reducible refine wpStill_step (fun K hK => ?_)); go_simp; (try go_bits); (with_reducible refine hK _ ?_); clear hK K)
          ((with_reducible refine wpStill_step (fun K hK => ?_)); go_simp; (try go_bits); (with_reducible refine hK _ ?_); clear hK K)
          (with_reducible refine wpStill_nil ?_)
          gi_wp2_with (gi_at_call 89; first | ((with_reducible refine (callsIn_wide.2 KA).mono ?_); rintro e w' ⟨rfl, rfl⟩) | ((with_reducible refine (callsIn_wide.2 KB).mono ?_); rintro e w' ⟨rfl, rfl⟩))
          gi_wp2
          refine hRR.mono ?_
          rintro e W' ⟨hK, (⟨rfl, hj'⟩ | ⟨rfl, hjx⟩)⟩
          · gi_wp2
            go_roundw
            case rel =>
              refine ⟨i + 1, k + 1, j + 1, O, by go_num, by go_num, by omega, by omega, by omega, HS.out, hj', fun x hx => ?_, Nat.le_trans hz hK.size, fun x hx => ?_⟩
              · have := HO.out x hx; have := hK.size; simp at this; omega
              · exact (hK.keep x (by have := hw; simp; omega) (.inr hx)).trans (Hk.out x hx)
            case measure => simp [nI]; omega
          · gi_wp2
            refine bodyPost_ret (results_none rfl _ _ _) rfl ?_
            exact ⟨⟨_, rfl⟩, O, fun x hx => by have := HO.out x hx; have := hK.size; simp at this; omega, Nat.le_trans hz hK.size, .inr hjx⟩
    · have h1 : (ends a).length ≤ i := by omega
      have h2 : (ends b).length ≤ k := by omega
      rw [st_done a b i k _ _ h1 h2] at hst
      have hjj : j = (st false false (ends a) (ends b)).length := by
        have := congrArg List.length hst
        simp at this; omega
      have g1 : decide ((i : Int) < 2 * (a.length : Int)) = false := by simp; omega
      have g2 : decide ((k : Int) < 2 * (b.length : Int)) = false := by simp; omega
      have HO := hide hO
      clear hst hY hR hkeep hHeap hO hSa' hSb'
      gi_wp2
      go_end0
      exact ⟨⟨_, rfl⟩, O, HO.out, hz, .inl (by rw [List.length_map, ← hjj]; exact hJ1)⟩
end Go.Proofs.Ytchdoamoeccjkaa
namespace Go.Proofs.Ytchdoamoeccjkaa
open Go.RowKit Go.Shelf Go.Mine Go.Mine.S
attribute [local go_sem] Oper.semAt_some

theorem states_any (w0 w : World) (A A' : Option Addr) (c c' : Nat) (a b : List Sp) (hSa : Sl spc 2 w0 A c a) (hSb : Sl spc 2 w0 A' c' b) (ga : good (-1) a) (gb : good (-1) b) (la : a.length ≤ 4096) (lb : b.length ≤ 4096) (hb : Below w0.heap.size w0 w) :
    Calls Try.prog 73 #[.slice A a.length c, .slice A' b.length c'] w fun e w' => ∃ l, e = .returned (.func (.func 88) #[] l) ∧ Below w.heap.size w w' ∧ w'.heap.size = w.heap.size + 2 ∧
      Iter Try.prog 88 l ((st false false (ends a) (ends b)).map fun s => #[encS s]) (fun x => x < w0.heap.size ∨ (w.heap.size ≤ x ∧ x < w.heap.size + 2)) w' := by
  have hmf : ∀ (fn : Fn) (first cap : Array Value) (w : World), (Instr.makeFunc fn first cap).run Try.prog w = .ok (.func fn first cap) w := fun _ _ _ _ => rfl
  go_enter Try.func73, Try.ntmps73
  go_wp2
  go_ret
  refine ⟨_, rfl, ((Below.refl _ _).alloc (Nat.le_refl _) _).alloc (by simp) _, by simp, ?_⟩
  exact states1_iter w0 _ A A' c c' a b hSa hSb ga gb la lb ((hb.alloc hb.size _).alloc (by simp; have := hb.size; omega) _) w.heap.size hb.size
    (((Blk.new w #[.slice A a.length c] 30).alloc _).cell 0 rfl) ((Blk.new1 w _ #[.slice A' b.length c'] 30).cell 0 rfl) (by simp)
end Go.Proofs.Ytchdoamoeccjkaa
namespace Go.Proofs.Ytchdoamoeccjkaa
open Go.RowKit Go.Shelf Go.Mine Go.Mine.S
attribute [local go_sem] Oper.semAt_some

theorem chkAll_two {a b : List Sp} (ha : chkS a = 0) (hb : chkS b = 0) : chkAll [a, b] = 0 := by
  unfold chkAll; rw [if_pos ha]; unfold chkAll; rw [if_pos hb]; rfl

theorem clo66_any (p q : Bool) (w : World) : Calls Try.prog 76 #[.bool p, .bool q] w fun e w' => e = .returned (.bool (fOr p q)) ∧ w' = w := by
  cases p <;> cases q
  all_goals
    go_enter Try.func76, Try.ntmps76
    go_wp2
    go_ret
    exact ⟨rfl, rfl⟩

set_option maxRecDepth 100000 in
set_option maxHeartbeats 4000000 in
theorem result66_good (A A' : Option Addr) (c c' : Nat) (a b : List Sp) (w : World) (hSa : Sl spc 2 w A c a) (hSb : Sl spc 2 w A' c' b) (za : chkS a = 0) (zb : chkS b = 0) (hl : a.length + b.length ≤ 4096) :
    Calls Try.prog 74 #[.slice A a.length c, .slice A' b.length c', .func (.func 76) #[] #[]] w fun e w' => ∃ v, e = .returned v ∧ OwnL spc 2 68 w' w.heap.size v (uni fOr a b) ∧ Below w.heap.size w w' := by
  have K60 := hide (fun bl w (hL : SlSl w bl 2 [a, b]) => scheck_any bl 2 [a, b] w hL (by simp))
  rw [chkAll_two za zb, endC_ok rfl] at K60
  obtain ⟨ga, la⟩ := chkS_good za
  obtain ⟨gb, lb⟩ := chkS_good zb
  have hul := uni_length (f := fOr) (a := a) (b := b)
  have hSt := uni_S (f := fOr) rfl ga gb
  have hU : uni fOr a b = resGo fOr (-1) [] (st false false (ends a) (ends b)) := rfl
  obtain ⟨i0, hi, hz0, hz1, hz2⟩ := info_parts Try_info68
  have HI := hide hi
  have HU := hide hU
  have hSl : (st false false (ends a) (ends b)).length ≤ 8192 := by
    have := st_length false false (ends a) (ends b)
    rw [ends_length, ends_length] at this
    omega
  clear hi hU
  refine (callsIn_wide (n := 9)).1 (callsIn_of_wp_marks Try.func74 rfl trivial ?_ rfl)
  simp only [Try.ntmps74]
  simp only [List.size_toArray, List.length_cons, List.length_nil, Nat.reduceAdd, Nat.reduceSub, Array.replicate_succ, Array.replicate_zero, List.push_toArray, List.append_toArray, List.nil_append, List.cons_append]
  gi_wp2_with fail
  refine (callsIn_wide.2 (K60.out _ _ (slsl_two (Blk.new2 w _ _ _ 30) (((hSa.alloc _).alloc _).alloc _) (((hSb.alloc _).alloc _).alloc _)))).mono ?_
  rintro e w3 ⟨rfl, hb⟩
  have b0 : Bx (fun _ => False) w3 w.heap.size 108 (.func (.func 76) #[] #[]) := .of (by simp) ((((Blk.new w #[.func (.func 76) #[] #[]] 108).alloc (Obj.cells #[.slice none 0 0] 30)).alloc (Obj.cells #[.slice A a.length c, .slice A' b.length c'] 30)).bel hb).at_
  have b1 : Bx (fun _ => False) w3 (w.heap.size + 1) 30 (.slice none 0 0) := .of (by simp) (((Blk.new1 w (Obj.cells #[.func (.func 76) #[] #[]] 108) #[.slice none 0 0] 30).alloc (Obj.cells #[.slice A a.length c, .slice A' b.length c'] 30)).bel hb).at_
  have hB3 := kcall (kalloc (kalloc (kalloc (Below.refl w.heap.size w) (Obj.cells #[.func (.func 76) #[] #[]] 108)) (Obj.cells #[.slice none 0 0] 30)) (Obj.cells #[.slice A a.length c, .slice A' b.length c'] 30)) hb
  have hz3 : w.heap.size + 3 ≤ w3.heap.size := by have := hb.size; simp at this; omega
  clear hb K60
  gi_wp2_with fail
  refine (callsIn_wide.2 (states_any w _ A A' c c' a b hSa hSb ga gb la lb (kalloc hB3 _))).mono ?_
  rintro e w5 ⟨lb', rfl, hb5, hz5, hit⟩
  have c0 := (b0.alloc (Obj.cells #[.int .i64 (-1)] 3)).bel hb5
  have c1 := (b1.alloc (Obj.cells #[.int .i64 (-1)] 3)).bel hb5
  have c2 : Bx (fun _ => False) w5 w3.heap.size 3 (.int .i64 (-1)) := (Bx.of (by simp) (heap_new w3 (.cells #[.int .i64 (-1)] 3))).bel hb5
  have hB5 := kcall (kalloc hB3 _) hb5
  rw [World.size_alloc] at hz5 hit
  clear hb5 b0 b1 hB3
  gi_wp2
  refine wpIn_range_gen (gf := 88) (lb := lb') rfl (enters_of Try.func88 (by kernel_rfl) rfl) hit (Nat.le_refl _) (fun x hx => ⟨by rcases hx with h | h <;> omega, rfl⟩) (fun x hx => by obtain ⟨y, _, rfl⟩ := List.mem_map.1 hx; rfl)
    (fun j O W => (∀ x, O x → w3.heap.size + 3 ≤ x) ∧ w3.heap.size + 3 ≤ W.heap.size ∧ Bx O W w.heap.size 108 (.func (.func 76) #[] #[]) ∧ (∃ o acc v, Bx O W (w.heap.size + 1) 30 v ∧ Bx O W w3.heap.size 3 (.int .i64 o) ∧ OwnO spc 2 68 O W (w3.heap.size + 3) v acc ∧
      resGo fOr o acc ((st false false (ends a) (ends b)).drop j) = uni fOr a b ∧ -1 ≤ o ∧ o ≤ 1099511627776 ∧ acc.length ≤ j) ∧ Below w.heap.size w W)
    (fun _ _ _ => False) ?_ (fun _ _ _ _ _ h _ => h) ?_ ?body ?done ?stop
  · rintro k O O' W W' ⟨h1, h2, h3, ⟨o, acc, v, h4, h5, h6, h7, h8, h9, h10⟩, h11⟩ s
    exact ⟨O_step s h1 h2, Nat.le_trans h2 s.size, h3.step s, ⟨o, acc, v, h4.step s, h5.step s, h6.step s, h7, h8, h9, h10⟩, s.below h11 (by omega) (fun x hx => by have := h1 x hx; omega)⟩
  · exact ⟨fun x hx => hx.elim, by omega, c0, ⟨-1, [], _, c1, c2, ⟨OwnL.nil _ _ _ _ _, by simp [Value.ownBlock]⟩, by rw [List.drop_zero]; exact HU.out.symm, by omega, by omega, by simp⟩, hB5⟩
  case body =>
    rintro lp j x O W hx ⟨h1, h2, h3, ⟨o, acc, v, h4, h5, h6, h7, h8, h9, h10⟩, h11⟩ hO hz
    rw [List.getElem?_map] at hx
    obtain ⟨s, hs, rfl⟩ := Option.map_eq_some_iff.1 hx
    have hj : j < (st false false (ends a) (ends b)).length := (List.getElem?_eq_some_iff.1 hs).1
    have hdr := drop_of_get hs
    have hsb := hSt.2.1 s (List.mem_of_getElem? hs)
    obtain ⟨u, p, q⟩ := s
    dsimp only at hsb
    obtain ⟨u1, u2⟩ := hsb
    rw [hdr] at h7
    clear hx hs hdr hSt hit c0 c1 c2
    have H1 := hide h1
    have HO := hide hO
    clear h1 hO
    simp only [encS]
    gi_wp2
    refine ⟨(Kept.refl _ _).alloc _, fun W2 s2 hz2 => ?_⟩
    have k3 := (h3.alloc (Obj.cells #[.int .i64 u, .bool p, .bool q] 106)).step s2
    have k4 := (h4.alloc (Obj.cells #[.int .i64 u, .bool p, .bool q] 106)).step s2
    have k5 := (h5.alloc (Obj.cells #[.int .i64 u, .bool p, .bool q] 106)).step s2
    have k6 := OwnO.step ⟨h6.own.alloc (Obj.cells #[.int .i64 u, .bool p, .bool q] 106), h6.no⟩ s2
    have k11 := s2.below (h11.alloc (by omega) (Obj.cells #[.int .i64 u, .bool p, .bool q] 106)) (by simp; omega) (fun x hx => by have := H1.out x hx; omega)
    have k8 : Blk W2 W.heap.size 106 #[.int .i64 u, .bool p, .bool q] := ⟨by rw [hz2]; simp, (s2.keep _ (by simp) (fun h => by have := (HO.out _ h).2; omega)).trans (heap_new _ _)⟩
    have d0 := k8.cell (v := .int .i64 u) 0 rfl
    have d1 := k8.cell (v := .bool p) 1 rfl
    have d2 := k8.cell (v := .bool q) 2 rfl
    have d3 := k3.cell
    have d4 := k4.cell
    have e4 := k4.frozen
    have d5 := k5.cell
    have e5 := k5.frozen
    have hW2 : w3.heap.size + 3 ≤ W2.heap.size := by rw [hz2]; simp; omega
    have hlt8 := k8.lt
    have hW0 : W.heap.size < W2.heap.size := hlt8
    rw [show resGo fOr o acc ((u, p, q) :: (st false false (ends a) (ends b)).drop (j + 1)) = if fOr p q = true then (if o < 0 then resGo fOr u acc ((st false false (ends a) (ends b)).drop (j + 1)) else resGo fOr o acc ((st false false (ends a) (ends b)).drop (j + 1))) else (if 0 ≤ o then resGo fOr (-1) (acc ++ [(o, u)]) ((st false false (ends a) (ends b)).drop (j + 1)) else resGo fOr o acc ((st false false (ends a) (ends b)).drop (j + 1))) from rfl] at h7
    have KC := hide (fun w => clo66_any p q w)
    clear h3 h4 h5 h6 h11 s2 hz2 hB5 hz5
    cases hfv : fOr p q
    · rw [hfv] at h7 KC
      simp only [Bool.false_eq_true, if_false] at h7
      by_cases ho : 0 ≤ o
      · rw [if_pos ho] at h7
        have H7 := hide h7
        have g1 : ¬ o < 0 := by omega
        clear h7 hfv
        have KO := hide k6.own
        gi_wp2_with (first | (gi_at_call 76; refine (CallsIn.inRound lp (callsIn_wide.2 (KC.out _))).mono ?_; rintro e w' ⟨rfl, rfl⟩) | (gi_at_builtin; refine wpListIn_append rfl (.tmp 39) (.tmp 44) 30 rfl rfl rfl (run_extend (f := spc) (base := w3.heap.size + 3) (l1 := acc) (l2 := [(o, u)]) Try.underlying30 HI.out hz0 hz1 hz2 rfl (by decide) (KO.out.alloc _) (Sl.one (Blk.new _ _ _) rfl rfl (by decide) (by decide)) ?_ ?_ ?_ ?_) ?_))
        · intro x hx y hy
          simp at hx; subst hx
          simp [spc] at hy; rcases hy with rfl | rfl <;> rfl
        · simp [maxLen]; omega
        · simp; omega
        · simp; omega
        · intro v' w6 gO gG gB
          obtain ⟨A2, cp2, hv', -⟩ := OwnL.sl gO
          subst hv'
          have hg : ∀ g, v.ownBlock = some g → w3.heap.size + 3 ≤ g := fun g hg => (KO.out.blk hg).1
          have m6 := OwnO.new (w := w'.alloc (Obj.cells #[.int .i64 o, .int .i64 u] 68)) ⟨k6.own.alloc _, k6.no⟩ gO (fun g h => by have := gB g h; simpa using this) (fun x hx => by have := (HO.out x hx).2; simp; omega)
          have hr1 : ∀ x, x < w3.heap.size + 3 → some x ≠ v.ownBlock := fun x hx e => by have := hg x e.symm; omega
          have m3 := (k3.alloc (Obj.cells #[.int .i64 o, .int .i64 u] 68)).grown gG (hr1 _ (by omega))
          have m4 := (k4.alloc (Obj.cells #[.int .i64 o, .int .i64 u] 68)).grown gG (hr1 _ (by omega))
          have m5 := (k5.alloc (Obj.cells #[.int .i64 o, .int .i64 u] 68)).grown gG (hr1 _ (by omega))
          have m11 := (k11.alloc (by omega) (Obj.cells #[.int .i64 o, .int .i64 u] 68)).grown gG (by simp; omega) (fun g h => by have := hg g h; omega)
          have mK := ((Kept.refl (fun x => O x ∨ x < w.heap.size ∨ w3.heap.size + 1 ≤ x ∧ x < w3.heap.size + 1 + 2) w').alloc (Obj.cells #[.int .i64 o, .int .i64 u] 68)).grown gG (fun g h => by
            have h5 := hg g h
            rintro (h' | h' | h')
            · exact k6.no g h h'
            · omega
            · omega)
          have hs6 := gG.size
          rw [World.size_alloc] at hs6
          have d4' := m4.cell
          have e4' := m4.frozen
          have d5' := m5.cell
          have e5' := m5.frozen
          simp only [List.length_append, List.length_cons, List.length_nil, Nat.zero_add] at m6
          replace m6 := hide m6
          clear gO gG gB d0 d1 d2 d3 d4 e4 d5 e5 hg hr1
          gi_wp2
          exact ⟨(mK.setCell _ (by rintro (h | h | h); exact m4.no h; dsimp only at h; omega; dsimp only at h; omega)).setCell _ (by rintro (h | h | h); exact m5.no h; dsimp only at h; omega; dsimp only at h; omega), H1.out, by simp [World.setCell]; omega,
            (m3.far _ (by first | omega | (dsimp only; omega))).far _ (by first | omega | (dsimp only; omega)), ⟨-1, acc ++ [(o, u)], _, (m4.set _).far _ (by first | omega | (dsimp only; omega)), (m5.far _ (by first | omega | (dsimp only; omega))).set _, (m6.out.far ⟨w.heap.size + 1, 0, none⟩ (.slice A2 (acc.length + 1) cp2) (by dsimp only; omega)).far ⟨w3.heap.size, 0, none⟩ (.int .i64 (-1)) (by dsimp only; omega), H7.out, by omega, by omega, by simp; omega⟩,
            (m11.setCell (by first | omega | (dsimp only; omega)) _).setCell (by first | omega | (dsimp only; omega)) _⟩
      · rw [if_neg ho] at h7
        have H7 := hide h7
        have g1 : o < 0 := by omega
        clear h7 hfv
        gi_wp2_with (first | (gi_at_call 76; refine (CallsIn.inRound lp (callsIn_wide.2 (KC.out _))).mono ?_; rintro e w' ⟨rfl, rfl⟩))
        exact ⟨Kept.refl _ _, H1.out, hW2, k3, ⟨o, acc, v, k4, k5, k6, H7.out, h8, h9, by omega⟩, k11⟩
    · rw [hfv] at h7 KC
      simp only [if_true] at h7
      by_cases ho : o < 0
      · rw [if_pos ho] at h7
        have H7 := hide h7
        clear h7 hfv
        gi_wp2_with (first | (gi_at_call 76; refine (CallsIn.inRound lp (callsIn_wide.2 (KC.out _))).mono ?_; rintro e w' ⟨rfl, rfl⟩))
        exact ⟨(Kept.refl _ _).setCell _ (by rintro (h | h | h); exact k5.no h; dsimp only at h; omega; dsimp only at h; omega), H1.out, by simp [World.setCell]; omega, k3.far _ (by dsimp only; omega), ⟨u, acc, v, k4.far _ (by dsimp only; omega), k5.set _, k6.far _ _ (by dsimp only; omega), H7.out, by omega, by omega, by omega⟩, k11.setCell (by dsimp only; omega) _⟩
      · rw [if_neg ho] at h7
        have H7 := hide h7
        have g1 : ¬ o < 0 := ho
        clear h7 hfv
        gi_wp2_with (first | (gi_at_call 76; refine (CallsIn.inRound lp (callsIn_wide.2 (KC.out _))).mono ?_; rintro e w' ⟨rfl, rfl⟩))
        exact ⟨Kept.refl _ _, H1.out, hW2, k3, ⟨o, acc, v, k4, k5, k6, H7.out, h8, h9, by omega⟩, k11⟩
  case done =>
    rintro O W ⟨h1, h2, h3, ⟨o, acc, v, h4, h5, h6, h7, h8, h9, h10⟩, h11⟩ hO hD hOD hz
    rw [List.length_map] at h7
    rw [List.drop_of_length_le (Nat.le_refl _)] at h7
    have hacc : acc = uni fOr a b := h7
    rw [hacc] at h6
    rw [← hacc] at hul
    rw [hacc] at hul
    obtain ⟨A2, cp2, hv2, -⟩ := OwnL.sl h6.own
    subst hv2
    have d4 := h4.cell
    have e4 := h4.frozen
    have H7 := hide h7
    clear h7 hacc hSt hit c0 c1 c2 HU
    gi_wp2
    have g := (h4.set (.slice A2 (uni fOr a b).length cp2)).put (D := w5.heap.size) (.deferred none) (by omega)
    have c6 := g.cell
    have hO6 := h6.far ⟨w.heap.size + 1, 0, none⟩ (.slice A2 (uni fOr a b).length cp2) (by dsimp only; omega)
    refine leaves_mark1 (v := .slice A2 (uni fOr a b).length cp2) (set_other hD (by dsimp only; omega)) (by simp [results, Try.results74, go_sem, c6]) ⟨_, rfl, ?_, below_put (h11.setCell (by dsimp only; omega) _) _ (by omega)⟩
    have hM := OwnL.mono (base' := w.heap.size) (OwnO.put hO6 (.deferred none) hOD).own (by omega)
    exact hM
  case stop =>
    rintro c O W h
    exact h.elim

theorem clo68_any (p q : Bool) (w : World) : Calls Try.prog 75 #[.bool p, .bool q] w fun e w' => e = .returned (.bool (fAnd p q)) ∧ w' = w := by
  cases p <;> cases q
  all_goals
    go_enter Try.func75, Try.ntmps75
    go_wp2
    go_ret
    exact ⟨rfl, rfl⟩

set_option maxRecDepth 100000 in
set_option maxHeartbeats 4000000 in
theorem result68_good (A A' : Option Addr) (c c' : Nat) (a b : List Sp) (w : World) (hSa : Sl spc 2 w A c a) (hSb : Sl spc 2 w A' c' b) (za : chkS a = 0) (zb : chkS b = 0) (hl : a.length + b.length ≤ 4096) :
    Calls Try.prog 74 #[.slice A a.length c, .slice A' b.length c', .func (.func 75) #[] #[]] w fun e w' => ∃ v, e = .returned v ∧ OwnL spc 2 68 w' w.heap.size v (uni fAnd a b) ∧ Below w.heap.size w w' := by
  have K60 := hide (fun bl w (hL : SlSl w bl 2 [a, b]) => scheck_any bl 2 [a, b] w hL (by simp))
  rw [chkAll_two za zb, endC_ok rfl] at K60
  obtain ⟨ga, la⟩ := chkS_good za
  obtain ⟨gb, lb⟩ := chkS_good zb
  have hul := uni_length (f := fAnd) (a := a) (b := b)
  have hSt := uni_S (f := fAnd) rfl ga gb
  have hU : uni fAnd a b = resGo fAnd (-1) [] (st false false (ends a) (ends b)) := rfl
  obtain ⟨i0, hi, hz0, hz1, hz2⟩ := info_parts Try_info68
  have HI := hide hi
  have HU := hide hU
  have hSl : (st false false (ends a) (ends b)).length ≤ 8192 := by
    have := st_length false false (ends a) (ends b)
    rw [ends_length, ends_length] at this
    omega
  clear hi hU
  refine (callsIn_wide (n := 9)).1 (callsIn_of_wp_marks Try.func74 rfl trivial ?_ rfl)
  simp only [Try.ntmps74]
  simp only [List.size_toArray, List.length_cons, List.length_nil, Nat.reduceAdd, Nat.reduceSub, Array.replicate_succ, Array.replicate_zero, List.push_toArray, List.append_toArray, List.nil_append, List.cons_append]
  gi_wp2_with fail
  refine (callsIn_wide.2 (K60.out _ _ (slsl_two (Blk.new2 w _ _ _ 30) (((hSa.alloc _).alloc _).alloc _) (((hSb.alloc _).alloc _).alloc _)))).mono ?_
  rintro e w3 ⟨rfl, hb⟩
  have b0 : Bx (fun _ => False) w3 w.heap.size 108 (.func (.func 75) #[] #[]) := .of (by simp) ((((Blk.new w #[.func (.func 75) #[] #[]] 108).alloc (Obj.cells #[.slice none 0 0] 30)).alloc (Obj.cells #[.slice A a.length c, .slice A' b.length c'] 30)).bel hb).at_
  have b1 : Bx (fun _ => False) w3 (w.heap.size + 1) 30 (.slice none 0 0) := .of (by simp) (((Blk.new1 w (Obj.cells #[.func (.func 75) #[] #[]] 108) #[.slice none 0 0] 30).alloc (Obj.cells #[.slice A a.length c, .slice A' b.length c'] 30)).bel hb).at_
  have hB3 := kcall (kalloc (kalloc (kalloc (Below.refl w.heap.size w) (Obj.cells #[.func (.func 75) #[] #[]] 108)) (Obj.cells #[.slice none 0 0] 30)) (Obj.cells #[.slice A a.length c, .slice A' b.length c'] 30)) hb
  have hz3 : w.heap.size + 3 ≤ w3.heap.size := by have := hb.size; simp at this; omega
  clear hb K60
  gi_wp2_with fail
  refine (callsIn_wide.2 (states_any w _ A A' c c' a b hSa hSb ga gb la lb (kalloc hB3 _))).mono ?_
  rintro e w5 ⟨lb', rfl, hb5, hz5, hit⟩
  have c0 := (b0.alloc (Obj.cells #[.int .i64 (-1)] 3)).bel hb5
  have c1 := (b1.alloc (Obj.cells #[.int .i64 (-1)] 3)).bel hb5
  have c2 : Bx (fun _ => False) w5 w3.heap.size 3 (.int .i64 (-1)) := (Bx.of (by simp) (heap_new w3 (.cells #[.int .i64 (-1)] 3))).bel hb5
  have hB5 := kcall (kalloc hB3 _) hb5
  rw [World.size_alloc] at hz5 hit
  clear hb5 b0 b1 hB3
  gi_wp2
  refine wpIn_range_gen (gf := 88) (lb := lb') rfl (enters_of Try.func88 (by kernel_rfl) rfl) hit (Nat.le_refl _) (fun x hx => ⟨by rcases hx with h | h <;> omega, rfl⟩) (fun x hx => by obtain ⟨y, _, rfl⟩ := List.mem_map.1 hx; rfl)
    (fun j O W => (∀ x, O x → w3.heap.size + 3 ≤ x) ∧ w3.heap.size + 3 ≤ W.heap.size ∧ Bx O W w.heap.size 108 (.func (.func 75) #[] #[]) ∧ (∃ o acc v, Bx O W (w.heap.size + 1) 30 v ∧ Bx O W w3.heap.size 3 (.int .i64 o) ∧ OwnO spc 2 68 O W (w3.heap.size + 3) v acc ∧
      resGo fAnd o acc ((st false false (ends a) (ends b)).drop j) = uni fAnd a b ∧ -1 ≤ o ∧ o ≤ 1099511627776 ∧ acc.length ≤ j) ∧ Below w.heap.size w W)
    (fun _ _ _ => False) ?_ (fun _ _ _ _ _ h _ => h) ?_ ?body ?done ?stop
  · rintro k O O' W W' ⟨h1, h2, h3, ⟨o, acc, v, h4, h5, h6, h7, h8, h9, h10⟩, h11⟩ s
    exact ⟨O_step s h1 h2, Nat.le_trans h2 s.size, h3.step s, ⟨o, acc, v, h4.step s, h5.step s, h6.step s, h7, h8, h9, h10⟩, s.below h11 (by omega) (fun x hx => by have := h1 x hx; omega)⟩
  · exact ⟨fun x hx => hx.elim, by omega, c0, ⟨-1, [], _, c1, c2, ⟨OwnL.nil _ _ _ _ _, by simp [Value.ownBlock]⟩, by rw [List.drop_zero]; exact HU.out.symm, by omega, by omega, by simp⟩, hB5⟩
  case body =>
    rintro lp j x O W hx ⟨h1, h2, h3, ⟨o, acc, v, h4, h5, h6, h7, h8, h9, h10⟩, h11⟩ hO hz
    rw [List.getElem?_map] at hx
    obtain ⟨s, hs, rfl⟩ := Option.map_eq_some_iff.1 hx
    have hj : j < (st false false (ends a) (ends b)).length := (List.getElem?_eq_some_iff.1 hs).1
    have hdr := drop_of_get hs
    have hsb := hSt.2.1 s (List.mem_of_getElem? hs)
    obtain ⟨u, p, q⟩ := s
    dsimp only at hsb
    obtain ⟨u1, u2⟩ := hsb
    rw [hdr] at h7
    clear hx hs hdr hSt hit c0 c1 c2
    have H1 := hide h1
    have HO := hide hO
    clear h1 hO
    simp only [encS]
    gi_wp2
    refine ⟨(Kept.refl _ _).alloc _, fun W2 s2 hz2 => ?_⟩
    have k3 := (h3.alloc (Obj.cells #[.int .i64 u, .bool p, .bool q] 106)).step s2
    have k4 := (h4.alloc (Obj.cells #[.int .i64 u, .bool p, .bool q] 106)).step s2
    have k5 := (h5.alloc (Obj.cells #[.int .i64 u, .bool p, .bool q] 106)).step s2
    have k6 := OwnO.step ⟨h6.own.alloc (Obj.cells #[.int .i64 u, .bool p, .bool q] 106), h6.no⟩ s2
    have k11 := s2.below (h11.alloc (by omega) (Obj.cells #[.int .i64 u, .bool p, .bool q] 106)) (by simp; omega) (fun x hx => by have := H1.out x hx; omega)
    have k8 : Blk W2 W.heap.size 106 #[.int .i64 u, .bool p, .bool q] := ⟨by rw [hz2]; simp, (s2.keep _ (by simp) (fun h => by have := (HO.out _ h).2; omega)).trans (heap_new _ _)⟩
    have d0 := k8.cell (v := .int .i64 u) 0 rfl
    have d1 := k8.cell (v := .bool p) 1 rfl
    have d2 := k8.cell (v := .bool q) 2 rfl
    have d3 := k3.cell
    have d4 := k4.cell
    have e4 := k4.frozen
    have d5 := k5.cell
    have e5 := k5.frozen
    have hW2 : w3.heap.size + 3 ≤ W2.heap.size := by rw [hz2]; simp; omega
    have hlt8 := k8.lt
    have hW0 : W.heap.size < W2.heap.size := hlt8
    rw [show resGo fAnd o acc ((u, p, q) :: (st false false (ends a) (ends b)).drop (j + 1)) = if fAnd p q = true then (if o < 0 then resGo fAnd u acc ((st false false (ends a) (ends b)).drop (j + 1)) else resGo fAnd o acc ((st false false (ends a) (ends b)).drop (j + 1))) else (if 0 ≤ o then resGo fAnd (-1) (acc ++ [(o, u)]) ((st false false (ends a) (ends b)).drop (j + 1)) else resGo fAnd o acc ((st false false (ends a) (ends b)).drop (j + 1))) from rfl] at h7
    have KC := hide (fun w => clo68_any p q w)
    clear h3 h4 h5 h6 h11 s2 hz2 hB5 hz5
    cases hfv : fAnd p q
    · rw [hfv] at h7 KC
      simp only [Bool.false_eq_true, if_false] at h7
      by_cases ho : 0 ≤ o
      · rw [if_pos ho] at h7
        have H7 := hide h7
        have g1 : ¬ o < 0 := by omega
        clear h7 hfv
        have KO := hide k6.own
        gi_wp2_with (first | (gi_at_call 75; refine (CallsIn.inRound lp (callsIn_wide.2 (KC.out _))).mono ?_; rintro e w' ⟨rfl, rfl⟩) | (gi_at_builtin; refine wpListIn_append rfl (.tmp 39) (.tmp 44) 30 rfl rfl rfl (run_extend (f := spc) (base := w3.heap.size + 3) (l1 := acc) (l2 := [(o, u)]) Try.underlying30 HI.out hz0 hz1 hz2 rfl (by decide) (KO.out.alloc _) (Sl.one (Blk.new _ _ _) rfl rfl (by decide) (by decide)) ?_ ?_ ?_ ?_) ?_))
        · intro x hx y hy
          simp at hx; subst hx
          simp [spc] at hy; rcases hy with rfl | rfl <;> rfl
        · simp [maxLen]; omega
        · simp; omega
        · simp; omega
        · intro v' w6 gO gG gB
          obtain ⟨A2, cp2, hv', -⟩ := OwnL.sl gO
          subst hv'
          have hg : ∀ g, v.ownBlock = some g → w3.heap.size + 3 ≤ g := fun g hg => (KO.out.blk hg).1
          have m6 := OwnO.new (w := w'.alloc (Obj.cells #[.int .i64 o, .int .i64 u] 68)) ⟨k6.own.alloc _, k6.no⟩ gO (fun g h => by have := gB g h; simpa using this) (fun x hx => by have := (HO.out x hx).2; simp; omega)
          have hr1 : ∀ x, x < w3.heap.size + 3 → some x ≠ v.ownBlock := fun x hx e => by have := hg x e.symm; omega
          have m3 := (k3.alloc (Obj.cells #[.int .i64 o, .int .i64 u] 68)).grown gG (hr1 _ (by omega))
          have m4 := (k4.alloc (Obj.cells #[.int .i64 o, .int .i64 u] 68)).grown gG (hr1 _ (by omega))
          have m5 := (k5.alloc (Obj.cells #[.int .i64 o, .int .i64 u] 68)).grown gG (hr1 _ (by omega))
          have m11 := (k11.alloc (by omega) (Obj.cells #[.int .i64 o, .int .i64 u] 68)).grown gG (by simp; omega) (fun g h => by have := hg g h; omega)
          have mK := ((Kept.refl (fun x => O x ∨ x < w.heap.size ∨ w3.heap.size + 1 ≤ x ∧ x < w3.heap.size + 1 + 2) w').alloc (Obj.cells #[.int .i64 o, .int .i64 u] 68)).grown gG (fun g h => by
            have h5 := hg g h
            rintro (h' | h' | h')
            · exact k6.no g h h'
            · omega
            · omega)
          have hs6 := gG.size
          rw [World.size_alloc] at hs6
          have d4' := m4.cell
          have e4' := m4.frozen
          have d5' := m5.cell
          have e5' := m5.frozen
          simp only [List.length_append, List.length_cons, List.length_nil, Nat.zero_add] at m6
          replace m6 := hide m6
          clear gO gG gB d0 d1 d2 d3 d4 e4 d5 e5 hg hr1
          gi_wp2
          exact ⟨(mK.setCell _ (by rintro (h | h | h); exact m4.no h; dsimp only at h; omega; dsimp only at h; omega)).setCell _ (by rintro (h | h | h); exact m5.no h; dsimp only at h; omega; dsimp only at h; omega), H1.out, by simp [World.setCell]; omega,
            (m3.far _ (by first | omega | (dsimp only; omega))).far _ (by first | omega | (dsimp only; omega)), ⟨-1, acc ++ [(o, u)], _, (m4.set _).far _ (by first | omega | (dsimp only; omega)), (m5.far _ (by first | omega | (dsimp only; omega))).set _, (m6.out.far ⟨w.heap.size + 1, 0, none⟩ (.slice A2 (acc.length + 1) cp2) (by dsimp only; omega)).far ⟨w3.heap.size, 0, none⟩ (.int .i64 (-1)) (by dsimp only; omega), H7.out, by omega, by omega, by simp; omega⟩,
            (m11.setCell (by first | omega | (dsimp only; omega)) _).setCell (by first | omega | (dsimp only; omega)) _⟩
      · rw [if_neg ho] at h7
        have H7 := hide h7
        have g1 : o < 0 := by omega
        clear h7 hfv
        gi_wp2_with (first | (gi_at_call 75; refine (CallsIn.inRound lp (callsIn_wide.2 (KC.out _))).mono ?_; rintro e w' ⟨rfl, rfl⟩))
        exact ⟨Kept.refl _ _, H1.out, hW2, k3, ⟨o, acc, v, k4, k5, k6, H7.out, h8, h9, by omega⟩, k11⟩
    · rw [hfv] at h7 KC
      simp only [if_true] at h7
      by_cases ho : o < 0
      · rw [if_pos ho] at h7
        have H7 := hide h7
        clear h7 hfv
        gi_wp2_with (first | (gi_at_call 75; refine (CallsIn.inRound lp (callsIn_wide.2 (KC.out _))).mono ?_; rintro e w' ⟨rfl, rfl⟩))
        exact ⟨(Kept.refl _ _).setCell _ (by rintro (h | h | h); exact k5.no h; dsimp only at h; omega; dsimp only at h; omega), H1.out, by simp [World.setCell]; omega, k3.far _ (by dsimp only; omega), ⟨u, acc, v, k4.far _ (by dsimp only; omega), k5.set _, k6.far _ _ (by dsimp only; omega), H7.out, by omega, by omega, by omega⟩, k11.setCell (by dsimp only; omega) _⟩
      · rw [if_neg ho] at h7
        have H7 := hide h7
        have g1 : ¬ o < 0 := ho
        clear h7 hfv
        gi_wp2_with (first | (gi_at_call 75; refine (CallsIn.inRound lp (callsIn_wide.2 (KC.out _))).mono ?_; rintro e w' ⟨rfl, rfl⟩))
        exact ⟨Kept.refl _ _, H1.out, hW2, k3, ⟨o, acc, v, k4, k5, k6, H7.out, h8, h9, by omega⟩, k11⟩
  case done =>
    rintro O W ⟨h1, h2, h3, ⟨o, acc, v, h4, h5, h6, h7, h8, h9, h10⟩, h11⟩ hO hD hOD hz
    rw [List.length_map] at h7
    rw [List.drop_of_length_le (Nat.le_refl _)] at h7
    have hacc : acc = uni fAnd a b := h7
    rw [hacc] at h6
    rw [← hacc] at hul
    rw [hacc] at hul
    obtain ⟨A2, cp2, hv2, -⟩ := OwnL.sl h6.own
    subst hv2
    have d4 := h4.cell
    have e4 := h4.frozen
    have H7 := hide h7
    clear h7 hacc hSt hit c0 c1 c2 HU
    gi_wp2
    have g := (h4.set (.slice A2 (uni fAnd a b).length cp2)).put (D := w5.heap.size) (.deferred none) (by omega)
    have c6 := g.cell
    have hO6 := h6.far ⟨w.heap.size + 1, 0, none⟩ (.slice A2 (uni fAnd a b).length cp2) (by dsimp only; omega)
    refine leaves_mark1 (v := .slice A2 (uni fAnd a b).length cp2) (set_other hD (by dsimp only; omega)) (by simp [results, Try.results74, go_sem, c6]) ⟨_, rfl, ?_, below_put (h11.setCell (by dsimp only; omega) _) _ (by omega)⟩
    have hM := OwnL.mono (base' := w.heap.size) (OwnO.put hO6 (.deferred none) hOD).own (by omega)
    exact hM
  case stop =>
    rintro c O W h
    exact h.elim


end Go.Proofs.Ytchdoamoeccjkaa
