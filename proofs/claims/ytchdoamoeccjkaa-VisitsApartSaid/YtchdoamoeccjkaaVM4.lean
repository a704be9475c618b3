/-
  visits.states: the iterator yields, for each visit of a viewer, when it happens and what there is then.
  visits.Spans: its closure 'end' ends the span that has begun.
  visits.Spans, the way on which spans are made.
-/
import Derived.Test.YtchdoamoeccjkaaVM3
import Derived.Test.YtchdoamoeccjkaaVM1
import Derived.Test.YtchdoamoeccjkaaCells
import Derived.LoopIn
namespace Go.Proofs.Ytchdoamoeccjkaa
open Go.RowKit Go.Mine Go.Mine.V
attribute [local go_sem] Oper.semAt_some

theorem Sl.heap {α : Type} {f : α → List Value} {sz : Nat} {w w' : World} {A : Option Addr} {c : Nat} {l : List α} (h : Sl f sz w A c l) (hk : ∀ x, x < w.heap.size → w'.heap[x]? = w.heap[x]?) (hz : w.heap.size ≤ w'.heap.size) : Sl f sz w' A c l :=
  ⟨h.le, h.max, h.size, fun hn => by
    obtain ⟨b, off, e, hbw, hc⟩ := h.cells hn
    exact ⟨b, off, e, Nat.lt_of_lt_of_le hbw hz, fun i v hv => (World.cell?_of_block (a := ⟨b, off + i, none⟩) (hk b hbw)).trans (hc i v hv)⟩⟩
theorem drop_cons {α : Type} {l : List α} {j : Nat} {s : α} {r : List α} (h : l.drop j = s :: r) : l[j]? = some s ∧ l.drop (j + 1) = r ∧ j < l.length := by
  have h1 : j < l.length := by
    rcases Nat.lt_or_ge j l.length with h' | h'
    · exact h'
    · rw [List.drop_of_length_le h'] at h; cases h
  rw [List.drop_eq_getElem_cons h1] at h
  injection h with e1 e2
  exact ⟨by rw [List.getElem?_eq_getElem h1, e1], e2, h1⟩
theorem IStep.grown {O : Nat → Prop} {W W' : World} {r : Nat} (h : W.grownBy W' (some r)) (hr : O r) : IStep O (fun b => O b ∨ (W.heap.size ≤ b ∧ b < W'.heap.size)) W W' :=
  ⟨h.os, h.tape, h.output, h.size, fun b hb hn => h.block b hb (fun e => hn (by rw [Option.some.inj e]; exact hr)), fun b => Iff.rfl⟩
def stW (s : St) : Value := match s with
  | none => .agg #[.bool false, .int .i64 0]
  | some (o, g) => .agg #[.bool o, .int .i64 g]
theorem audM_get (a : Aud) (w : Int) : (audM a w).getD (.agg #[.bool false, .int .i64 0]) = stW (a w) := by
  unfold audM stW
  rcases a w with _ | ⟨o, g⟩ <;> rfl
def encSt (s : Int × St) : Array Value := #[.int .i64 s.1, stW s.2]
set_option maxHeartbeats 4000000 in
theorem states80_iter (w0 w1 : World) (A : Option Addr) (c : Nat) (l : List Vi) (who : Int) (hS : Sl viC 4 w0 A c l) (hI : ∀ x ∈ l, ViS x) (hiw : I64 who) (hll : l.length ≤ 4096) (hb : Below w0.heap.size w0 w1)
    (B : Nat) (hB : w0.heap.size ≤ B) (c0 : w1.cell? ⟨B, 0, none⟩ = some (.slice A l.length c)) (c1 : w1.cell? ⟨B + 1, 0, none⟩ = some (.int .i64 who)) (hB2 : B + 2 ≤ w1.heap.size) :
    Iter Try.prog 80 #[.pointer (some ⟨B, 0, none⟩), .pointer (some ⟨B + 1, 0, none⟩)] ((stL who nobody (own who l)).map encSt) (fun x => x < w0.heap.size ∨ (B ≤ x ∧ x < B + 2)) w1 := by
  intro n lp J Jx W hw hR hJ hJx hY h0
  have hlc := hS.le
  have hc := hS.max
  refine callsIn_of_wp Try.func80 rfl trivial ?_ rfl
  simp only [Try.ntmps80]
  simp only [List.size_toArray, List.length_cons, List.length_nil, Nat.reduceAdd, Nat.reduceSub, Array.replicate_succ, Array.replicate_zero, List.push_toArray, List.append_toArray, List.nil_append, List.cons_append]
  have hmm := @run_makeMap Try.prog
  have hR0 := hR
  have y0 : W.cell? ⟨B, 0, none⟩ = some (.slice A l.length c) := (World.cell?_of_block (a := ⟨B, 0, none⟩) (hR B (.inr (by omega))).2).trans c0
  have hBW : B < W.heap.size := by omega
  have M0 := hide (MapI.made W Try.prog 3)
  gi_wp2
  clear hmm
  gi_loopw [10] (fun v wr => ∃ (k j : Nat) (a : Aud) (O : Nat → Prop), v = .int .i64 k ∧ k ≤ l.length ∧ j ≤ (stL who nobody (own who l)).length ∧ (stL who nobody (own who l)).drop j = stL who a (own who (l.drop k)) ∧
      J j O wr ∧ O W.heap.size ∧ (∀ x, O x → W.heap.size ≤ x ∧ x < wr.heap.size) ∧ W.heap.size ≤ wr.heap.size ∧ (∀ x, (x < w0.heap.size ∨ (B ≤ x ∧ x < B + 2)) → wr.heap[x]? = W.heap[x]?) ∧ MapI Try.prog 3 wr W.heap.size k (audM a)) (fun v _ => l.length - (nI v).toNat)
  case atStart => exact ⟨0, 0, nobody, _, rfl, by omega, by omega, rfl, hJ _ _ _ _ _ h0 (IStep.alloc _ _), .inr rfl, fun x hx => by rcases hx with h | rfl; exact h.elim; simp, by simp, fun x hx => Below.heap_alloc _ _ x (by rcases hx with h | h <;> omega), M0.out⟩
  case round =>
    obtain ⟨k, j, a, O, rfl, hk, hj, hst, hJ1, hOm, hO, hz, hkeep, hM⟩ := hrel
    have hHeap : ∀ x, (x < w0.heap.size ∨ (B ≤ x ∧ x < B + 2)) → wr.heap[x]? = w1.heap[x]? := fun x h => (hkeep x h).trans (hR x h).2
    have e1 : wr.cell? ⟨B + 1, 0, none⟩ = some (.int .i64 who) := (World.cell?_of_block (a := ⟨B + 1, 0, none⟩) (hHeap (B + 1) (.inr (by omega)))).trans c1
    have hS' : Sl viC 4 wr A c l := Sl.heap hS (fun x hx => (hHeap x (.inl hx)).trans (hb.block x hx)) (by have := hb.size; omega)
    by_cases hlt : k < l.length
    · obtain ⟨x, bb, off, hx, hdr, rfl, hbw, d0, d1, d2, d3⟩ := Sl.vi_at hS' hlt
      have hxi := hI x (List.mem_of_getElem? hx)
      rw [hdr, own_cons] at hst
      have hBr : B + 1 < wr.heap.size := by omega
      have HK := hide hkeep
      have HO := hide hO
      by_cases hown : x.who = who
      · rw [if_pos hown, show stL who a (x :: own who (l.drop (k + 1))) = (x.t, perf a x who) :: stL who (perf a x) (own who (l.drop (k + 1))) from rfl] at hst
        obtain ⟨q1, q2, q3⟩ := drop_cons hst
        have g1 : (x.who != who) = false := by simp [hown]
        have KP := hide (perform_any x a W.heap.size k _ hxi (hM.alloc (.cells #[.int .i64 x.t, .int .i64 x.who, .int .i64 x.k, .int .i64 x.g] 40)) (by unfold maxLen; omega))
        have hJ2 := hide (hJ _ _ _ _ _ hJ1 (IStep.alloc wr (.cells #[.int .i64 x.t, .int .i64 x.who, .int .i64 x.k, .int .i64 x.g] 40)))
        have hml := hM.lt
        have hne : some wr.heap.size ≠ some W.heap.size := fun h => by have := Option.some.inj h; omega
        have xB := Blk.new wr #[.int .i64 x.t, .int .i64 x.who, .int .i64 x.k, .int .i64 x.g] 40
        have xC := xB.cell (v := .int .i64 x.t) 0 rfl
        have e2 : (wr.alloc (.cells #[.int .i64 x.t, .int .i64 x.who, .int .i64 x.k, .int .i64 x.g] 40)).cell? ⟨B + 1, 0, none⟩ = some (.int .i64 who) := ((Below.refl wr.heap.size wr).alloc (Nat.le_refl _) _).cell (p := ⟨B + 1, 0, none⟩) hBr |>.trans e1
        have HSt := hide q2
        have HY := hide (fun O W1 (h1 : J j O W1) h2 h3 => hY j (encSt (x.t, perf a x who)) O W1 (by rw [List.getElem?_map, q1]; rfl) h1 h2 h3)
        have HJ := hide @hJ
        generalize perf a x = a' at *
        generalize okV a x = v at *
        obtain ⟨xt, xw, xk, xg⟩ := x
        simp only [viV] at *
        clear hst q1 q2 hY hJ hJx hxi hdr hx hM hJ1 hown hS hS' hI hkeep hO hR hHeap hb hR0 M0
        gi_wp2_with fail
        refine (callsIn_wide.2 KP.out).mono ?_
        rintro e w' ⟨rfl, hM, hg⟩
        have x0 := gcell hg xB.lt hne xC
        have e3 := gcell hg (show B + 1 < (wr.alloc (.cells #[.int .i64 xt, .int .i64 xw, .int .i64 xk, .int .i64 xg] 40)).heap.size by simp; omega) (fun h => by have := Option.some.inj h; omega) e2
        have hl := hM.look Try.underlying3 Try.underlying72 (Try.zeroValue70 _) hiw
        rw [audM_get] at hl
        have hJ3 := hide (HJ.out _ _ _ _ _ hJ2.out (IStep.grown hg (.inl hOm)))
        have hgs := hg.size
        have hsz : wr.heap.size < w'.heap.size := by simp at hgs; omega
        have HM := hide hM
        have HG := hide hg
        obtain ⟨fn, tmps, assign, body, hy, hRR⟩ := HY.out _ w' hJ3.out (fun b hb => by
          rcases hb with (h | h) | h
          · have := HO.out b h; omega
          · omega
          · simp at h; omega) (by omega)
        simp only [encSt] at hy
        clear hM hg KP e2 xC xB hJ2 hJ3 HY d0 d1 d2 d3
        gi_wp2
        refine hRR.mono ?_
        rintro e W' ⟨hK, (⟨rfl, hj'⟩ | ⟨rfl, hjx⟩)⟩
        · gi_wp2
          go_roundw
          case rel =>
            refine ⟨k + 1, j + 1, a', _, by go_num, by omega, by omega, HSt.out, hj', .inl (.inl hOm), fun b hb => ?_, by have := hK.size; omega, fun b hb => ?_, HM.out.heap (hK.keep _ HM.out.lt (.inl (.inl (.inl hOm))))⟩
            · have := hK.size
              rcases hb with (h | h) | h
              · have := HO.out b h; omega
              · omega
              · simp at h; omega
            · refine (hK.keep b (by omega) (.inr hb)).trans ((HG.out.block b (by simp; omega) (fun e => by have := Option.some.inj e; omega)).trans ((Below.heap_alloc _ _ b (by omega)).trans (HK.out b hb)))
          case measure => simp [nI]; omega
        · gi_wp2
          refine bodyPost_ret (results_none rfl _ _ _) rfl ?_
          exact ⟨⟨_, rfl⟩, _, fun b hb => (by
            have := hK.size
            rcases hb with (h | h) | h
            · have := HO.out b h; omega
            · omega
            · simp at h; omega), (by have := hK.size; omega), .inr hjx⟩
      · rw [if_neg hown] at hst
        have g1 : (x.who != who) = true := by simp [hown]
        have HST := hide hst
        have HM := hide (hM.alloc (.cells #[.int .i64 x.t, .int .i64 x.who, .int .i64 x.k, .int .i64 x.g] 40))
        have HJ2 := hide (hJ _ _ _ _ _ hJ1 (IStep.alloc wr (.cells #[.int .i64 x.t, .int .i64 x.who, .int .i64 x.k, .int .i64 x.g] 40)))
        obtain ⟨xt, xw, xk, xg⟩ := x
        simp only at *
        clear hst hY hJ hJx hxi hdr hx hM hJ1 hown hS hS' hI hkeep hO hR hHeap hb hR0 M0
        gi_wp2
        go_roundw
        case rel =>
          refine ⟨k + 1, j, a, _, by go_num, by omega, by omega, HST.out, HJ2.out, .inl hOm, fun b hb => ?_, by simp; omega, fun b hb => (Below.heap_alloc _ _ b (by omega)).trans (HK.out b hb), HM.out.mono (by omega)⟩
          rcases hb with h | h
          · have := HO.out b h; simp; omega
          · simp; omega
        case measure => simp [nI]; omega
    · rw [List.drop_of_length_le (show l.length ≤ k by omega), own_nil, show stL who a [] = [] from rfl] at hst
      have hj2 : j = (stL who nobody (own who l)).length := by
        have := congrArg List.length hst
        simp at this; omega
      subst hj2
      clear hY hJ hJx hst hS hS' hI hR hR0 hHeap hb
      have HO := hide hO
      clear hO hkeep
      gi_wp2
      go_end0
      exact ⟨⟨_, rfl⟩, O, HO.out, hz, .inl (by rw [List.length_map]; exact hJ1)⟩
end Go.Proofs.Ytchdoamoeccjkaa
namespace Go.Proofs.Ytchdoamoeccjkaa
open Go.RowKit Go.Mine Go.Mine.V
open Go.Mine.S (Sp addL)
attribute [local go_sem] Oper.semAt_some

def spc (x : Sp) : List Value := [.int .i64 x.1, .int .i64 x.2]
theorem Try_info68 : (Try.prog.info? 68).map (fun i => (i.zero, i.size, i.bytes)) = some (some (.agg #[.int .i64 0, .int .i64 0]), 2, 16) := by kernel_rfl
theorem endS_no {s : List Sp} {fr u : Int} (h : ¬ (0 ≤ fr ∧ fr < u)) : endS s fr u = s := by unfold endS; rw [if_neg h]
theorem endS_nil {fr u : Int} (h : 0 ≤ fr ∧ fr < u) : endS [] fr u = [(fr, u)] := by unfold endS; rw [if_pos h]; rfl
theorem endS_snoc {s : List Sp} {y : Sp} {fr u : Int} (h : 0 ≤ fr ∧ fr < u) : endS (s ++ [y]) fr u = if y.2 = fr then s ++ [(y.1, u)] else (s ++ [y]) ++ [(fr, u)] := by
  unfold endS; rw [if_pos h]; unfold addL; rw [List.getLast?_concat]; simp
theorem One.kept {R : Nat → Prop} {W W' : World} {b : Nat} {v : Value} (h : One W b v) (k : Kept R W W') (hR : R b) : One W' b v := h.heap (k.keep b h.lt hR)
theorem One.grown {W W' : World} {b : Nat} {v : Value} (h : One W b v) {row : Option Nat} (g : W.grownBy W' row) (hr : some b ≠ row) : One W' b v := h.heap (g.block b h.lt hr)
def EndPost (base bs bf : Nat) (v : Value) (s : List Sp) (fr u : Int) (W : World) (e : Ending) (W' : World) : Prop :=
  e = .returned (.tuple #[]) ∧ ∃ v', OwnL spc 2 68 W' base v' (endS s fr u) ∧ One W' bs v' ∧ One W' bf (.int .i64 (-1)) ∧ (∀ g, v'.ownBlock = some g → v.ownBlock = some g ∨ W.heap.size ≤ g) ∧
    Kept (fun b => b ≠ bs ∧ b ≠ bf ∧ v.ownBlock ≠ some b) W W'
set_option maxHeartbeats 2000000 in
theorem end53_no (base bs bf : Nat) (v : Value) (s : List Sp) (fr u : Int) (W : World) (hO : OwnL spc 2 68 W base v s) (h1 : One W bs v) (h2 : One W bf (.int .i64 fr)) (hd : bs ≠ bf) (hv : ∀ g, v.ownBlock = some g → g ≠ bs ∧ g ≠ bf) (hn : ¬ (0 ≤ fr ∧ fr < u)) :
    Calls Try.prog 53 #[.int .i64 u, .pointer (some ⟨bs, 0, none⟩), .pointer (some ⟨bf, 0, none⟩)] W (EndPost base bs bf v s fr u W) := by
  obtain ⟨A, c, rfl, hS⟩ := hO.sl
  have c1 := h1.cell
  have c2 := h2.cell
  have f2 := h2.thaw
  have HP := hide (show ∀ W', W' = W.setCell ⟨bf, 0, none⟩ (.int .i64 (-1)) → EndPost base bs bf (.slice A s.length c) s fr u W (.returned (.tuple #[])) W' by
    rintro W' rfl
    refine ⟨rfl, _, ?_, h1.far _ hd, h2.set _, fun g hg => .inl hg, (Kept.refl _ _).setCell _ (by simp)⟩
    rw [endS_no hn]
    exact hO.keep fun g hg => Below.heap_setCell _ _ _ _ (hv g hg).2)
  clear hO h1 h2 hS
  by_cases h0 : 0 ≤ fr
  · have hu : decide (fr < u) = false := by simp; omega
    go_enter Try.func53, Try.ntmps53
    go_wp2
    go_end0
    exact HP.out _ rfl
  · go_enter Try.func53, Try.ntmps53
    go_wp2
    go_end0
    exact HP.out _ rfl

theorem kept_row {R : Nat → Prop} {W W' : World} {row : Option Nat} (h : W.grownBy W' row) (hr : ∀ k, row = some k → ¬ R k) : Kept R W W' := (Kept.refl R W).grown h hr
theorem end_fin (base bs bf : Nat) (v : Value) (s s2 : List Sp) (fr u : Int) (W X w1 : World) (h1 : One W bs v) (h2 : One W bf (.int .i64 fr)) (hd : bs ≠ bf) (hv : ∀ g, v.ownBlock = some g → g ≠ bs ∧ g ≠ bf) (hX : Below W.heap.size W X) {v' : Value} (hO1 : OwnL spc 2 68 w1 base v' s2) (hg : X.grownBy w1 v.ownBlock)
    (hat : ∀ g, v'.ownBlock = some g → v.ownBlock = some g ∨ W.heap.size ≤ g) (he : endS s fr u = s2) : One w1 bs v ∧ One w1 bf (.int .i64 fr) ∧ ∀ W', W' = (w1.setCell ⟨bs, 0, none⟩ v').setCell ⟨bf, 0, none⟩ (.int .i64 (-1)) → EndPost base bs bf v s fr u W (.returned (.tuple #[])) W' := by
  have o1 : One w1 bs v := One.grown (h1.bel hX) hg (fun h => (hv _ h.symm).1 rfl)
  have o2 : One w1 bf (.int .i64 fr) := One.grown (h2.bel hX) hg (fun h => (hv _ h.symm).2 rfl)
  have hs := hX.size
  have l1 := h1.lt
  have l2 := h2.lt
  have hne : ∀ g, v'.ownBlock = some g → g ≠ bs ∧ g ≠ bf := fun g hg => by
    rcases hat g hg with h | h
    · exact hv g h
    · constructor <;> omega
  refine ⟨o1, o2, ?_⟩
  rintro W' rfl
  refine ⟨rfl, v', ?_, (o1.set _).far _ hd, ((o2.far _ (fun e => hd e.symm)).set _), fun g hg => ?_, ((((Kept.of_below hX).grown hg ?_).setCell _ (by simp)).setCell _ (by simp))⟩
  · rw [he]
    exact hO1.keep fun g hg => (Below.heap_setCell _ _ _ _ (hne g hg).2).trans (Below.heap_setCell _ _ _ _ (hne g hg).1)
  · rcases hat g hg with h | h
    · exact .inl h
    · exact .inr h
  · intro k hk
    simp [hk]
set_option maxHeartbeats 4000000 in
theorem end53_nil (base bs bf : Nat) (v : Value) (fr u : Int) (W : World) (hO : OwnL spc 2 68 W base v []) (hb : base ≤ W.heap.size) (h1 : One W bs v) (h2 : One W bf (.int .i64 fr)) (hd : bs ≠ bf) (hv : ∀ g, v.ownBlock = some g → g ≠ bs ∧ g ≠ bf) (hy : 0 ≤ fr ∧ fr < u) :
    Calls Try.prog 53 #[.int .i64 u, .pointer (some ⟨bs, 0, none⟩), .pointer (some ⟨bf, 0, none⟩)] W (EndPost base bs bf v [] fr u W) := by
  obtain ⟨A, c, rfl, hS⟩ := hO.sl
  have c1 := h1.cell
  have c2 := h2.cell
  have f2 := h2.thaw
  have f1 := h1.thaw
  have l1 := h1.lt
  have l2 := h2.lt
  have HO := hide hO
  obtain ⟨i0, hi, hz0, hz1, hz2⟩ := info_parts Try_info68
  have HI := hide hi
  have HE := hide (endS_nil hy)
  obtain ⟨hy0, hy1⟩ := hy
  clear hO hS hi
  go_enter Try.func53, Try.ntmps53
  go_wp2_with fail
  refine wp_still_all (by kernel_rfl) (by kernel_rfl) ?_
  repeat ((with_reducible refine wpStill_step (fun K hK => ?_)); go_simp; (try go_bits); (with_reducible refine hK _ ?_); clear hK K)
  (with_reducible refine wpStill_nil ?_)
  go_wp2_with (at_builtin; refine wpList_push rfl (.tmp 32) (.tmp 36) 30 rfl Try.underlying30 HI.out hz0 hz1 hz2 rfl (by decide) rfl (by first | exact HO.out.alloc _ | exact (HO.out.alloc _).drew | exact HO.out.drew.alloc _) (y := ((fr, u) : Sp)) (b := W.heap.size) rfl (by first | exact heap_new _ _ | exact (Blk.new W _ _).drew.at_ | (simp; done)) rfl rfl (by intro x hx; simp [spc] at hx; rcases hx with rfl | rfl <;> rfl) ?_ ?_ ?_ ?_)
  · simp [maxLen]
  · simp
  · simp; omega
  · intro v' w1 hO1 hg1 hat1
    (obtain ⟨o1, o2, HF⟩ := end_fin base bs bf _ _ _ fr u W _ w1 h1 h2 hd hv (by first | exact kalloc (Below.refl _ _) _ | exact (kalloc (Below.refl _ _) _).drew | exact kalloc (Below.refl _ _).drew _) hO1 hg1 (fun g hg => (hat1 g hg).imp id (fun h => by first | omega | (simp at h; omega))) HE.out; obtain ⟨A2, k2, rfl, -⟩ := hO1.sl; have HF := hide HF; have p1 := o1.cell; have p2 := o2.cell; have r1 := o1.thaw; have r2 := o2.thaw; clear hO1 hg1 hat1 c1 c2 f1 f2 l1 l2 h1 h2 hv o1 o2 HO; go_wp2; go_end0; exact HF.out _ (by first | with_reducible rfl | simp))

set_option maxHeartbeats 4000000 in
theorem end53_push (base bs bf : Nat) (v : Value) (s : List Sp) (y : Sp) (fr u : Int) (W : World) (hO : OwnL spc 2 68 W base v (s ++ [y])) (hb : base ≤ W.heap.size) (h1 : One W bs v) (h2 : One W bf (.int .i64 fr)) (hd : bs ≠ bf) (hv : ∀ g, v.ownBlock = some g → g ≠ bs ∧ g ≠ bf) (hy : 0 ≤ fr ∧ fr < u) (hlen : s.length < 8000) (hne : y.2 ≠ fr) :
    Calls Try.prog 53 #[.int .i64 u, .pointer (some ⟨bs, 0, none⟩), .pointer (some ⟨bf, 0, none⟩)] W (EndPost base bs bf v (s ++ [y]) fr u W) := by
  obtain ⟨g, cap, rfl, hg, hgw, hcap, hf0, hf, hcell, hset⟩ := hO.last
  have c1 := h1.cell
  have c2 := h2.cell
  have f2 := h2.thaw
  have f1 := h1.thaw
  have l1 := h1.lt
  have l2 := h2.lt
  have k1 := hcell 1 (.int .i64 y.2) rfl
  have HE := hide (((endS_snoc (s := s) (y := y) hy).trans (if_neg hne)).trans (List.append_assoc s [y] [(fr, u)]))
  have HO := hide hO
  obtain ⟨i0, hi, hz0, hz1, hz2⟩ := info_parts Try_info68
  have HI := hide hi
  have gn : (y.2 == fr) = false := by simp [hne]
  have gi : (s.length : Int) < s.length + 1 := by omega
  have hcap2 : (s.length + 1) * 16 ≤ 140737488355328 := by omega
  obtain ⟨hy0, hy1⟩ := hy
  clear hO hi hcell hset hne
  go_enter Try.func53, Try.ntmps53
  go_wp2_with fail
  refine wp_still_all (by kernel_rfl) (by kernel_rfl) ?_
  repeat ((with_reducible refine wpStill_step (fun K hK => ?_)); go_simp; (try go_bits); (with_reducible refine hK _ ?_); clear hK K)
  (with_reducible refine wpStill_nil ?_)
  go_wp2_with (at_builtin; refine wpList_push rfl (.tmp 32) (.tmp 36) 30 rfl Try.underlying30 HI.out hz0 hz1 hz2 rfl (by decide) rfl (by first | exact HO.out.alloc _ | exact (HO.out.alloc _).drew | exact HO.out.drew.alloc _) (y := ((fr, u) : Sp)) (b := W.heap.size) rfl (by first | exact heap_new _ _ | exact (Blk.new W _ _).drew.at_ | (simp; done)) rfl rfl (by intro x hx; simp [spc] at hx; rcases hx with rfl | rfl <;> rfl) ?_ ?_ ?_ ?_)
  · simp [maxLen]; omega
  · simp; omega
  · simp; omega
  · intro v' w1 hO1 hg1 hat1
    (obtain ⟨o1, o2, HF⟩ := end_fin base bs bf _ _ _ fr u W _ w1 h1 h2 hd hv (by first | exact kalloc (Below.refl _ _) _ | exact (kalloc (Below.refl _ _) _).drew | exact kalloc (Below.refl _ _).drew _) hO1 hg1 (fun g hg => (hat1 g hg).imp id (fun h => by first | omega | (simp at h; omega))) HE.out; obtain ⟨A2, k2, rfl, -⟩ := hO1.sl; have HF := hide HF; have p1 := o1.cell; have p2 := o2.cell; have r1 := o1.thaw; have r2 := o2.thaw; clear hO1 hg1 hat1 c1 c2 f1 f2 l1 l2 h1 h2 hv o1 o2 HO; go_wp2; go_end0; exact HF.out _ (by first | with_reducible rfl | simp))
set_option maxHeartbeats 4000000 in
theorem end53_join (base bs bf : Nat) (v : Value) (s : List Sp) (y : Sp) (fr u : Int) (W : World) (hO : OwnL spc 2 68 W base v (s ++ [y])) (hb : base ≤ W.heap.size) (h1 : One W bs v) (h2 : One W bf (.int .i64 fr)) (hd : bs ≠ bf) (hv : ∀ g, v.ownBlock = some g → g ≠ bs ∧ g ≠ bf) (hy : 0 ≤ fr ∧ fr < u) (hlen : s.length < 8000) (hne : y.2 = fr) :
    Calls Try.prog 53 #[.int .i64 u, .pointer (some ⟨bs, 0, none⟩), .pointer (some ⟨bf, 0, none⟩)] W (EndPost base bs bf v (s ++ [y]) fr u W) := by
  obtain ⟨g, cap, rfl, hg, hgw, hcap, hf0, hf, hcell, hset⟩ := hO.last
  have c1 := h1.cell
  have c2 := h2.cell
  have f2 := h2.thaw
  have f1 := h1.thaw
  have l1 := h1.lt
  have l2 := h2.lt
  have k1 := hcell 1 (.int .i64 y.2) rfl
  have hv1 := hv g rfl
  have HP := hide (show ∀ W', W' = (W.setCell ⟨g, s.length * 2 + 1, none⟩ (.int .i64 u)).drew.setCell ⟨bf, 0, none⟩ (.int .i64 (-1)) ∨ W' = (W.drew.setCell ⟨g, s.length * 2 + 1, none⟩ (.int .i64 u)).setCell ⟨bf, 0, none⟩ (.int .i64 (-1)) ∨ W' = ((W.setCell ⟨g, s.length * 2 + 1, none⟩ (.int .i64 u)).setCell ⟨bf, 0, none⟩ (.int .i64 (-1))).drew → EndPost base bs bf (.slice (some ⟨g, 0, none⟩) (s.length + 1) cap) (s ++ [y]) fr u W (.returned (.tuple #[])) W' by
    have key : ∀ W' : World, W'.os = W.os → W'.tape = W.tape → W'.output = W.output → W'.heap = ((W.setCell ⟨g, s.length * 2 + 1, none⟩ (.int .i64 u)).setCell ⟨bf, 0, none⟩ (.int .i64 (-1))).heap → EndPost base bs bf (.slice (some ⟨g, 0, none⟩) (s.length + 1) cap) (s ++ [y]) fr u W (.returned (.tuple #[])) W' := by
      intro W' e1 e2 e3 e4
      have hk : Kept (fun b => b ≠ bs ∧ b ≠ bf ∧ (Value.slice (some ⟨g, 0, none⟩) (s.length + 1) cap).ownBlock ≠ some b) W ((W.setCell ⟨g, s.length * 2 + 1, none⟩ (.int .i64 u)).setCell ⟨bf, 0, none⟩ (.int .i64 (-1))) := ((Kept.refl _ W).setCell _ (by simp [Value.ownBlock])).setCell _ (by simp)
      refine ⟨rfl, .slice (some ⟨g, 0, none⟩) (s.length + 1) cap, ?_, One.heap ((h1.heap (Below.heap_setCell W ⟨g, s.length * 2 + 1, none⟩ (.int .i64 u) bs (fun e => hv1.1 e.symm))).far _ hd) (by rw [e4]), One.heap ((h2.heap (Below.heap_setCell W ⟨g, s.length * 2 + 1, none⟩ (.int .i64 u) bf (fun e => hv1.2 e.symm))).set _) (by rw [e4]), fun _ h => .inl h, ⟨e1, e2, e3, by rw [e4]; exact hk.size, fun b h1 h2 => by rw [e4]; exact hk.keep b h1 h2⟩⟩
      rw [(endS_snoc (s := s) (y := y) hy).trans (if_pos hne)]
      refine hset 1 (.int .i64 u) (y.1, u) W' ?_ (by decide) rfl
      rw [e4]
      exact Below.heap_setCell _ _ _ _ hv1.2
    rintro W' (rfl | rfl | rfl) <;> exact key _ rfl rfl rfl rfl)
  have gn : (y.2 == fr) = true := by simp [hne]
  have gi : (s.length : Int) < s.length + 1 := by omega
  obtain ⟨hy0, hy1⟩ := hy
  obtain ⟨hv2, hv3⟩ := hv1
  have hv2' : ¬ bs = g := fun e => hv2 e.symm
  have hv3' : ¬ bf = g := fun e => hv3 e.symm
  have fk := hf (s.length * 2 + 1)
  clear hO hcell hset h1 h2 hv hf hne
  go_enter Try.func53, Try.ntmps53
  go_wp2_with fail
  refine wp_still_all (by kernel_rfl) (by kernel_rfl) ?_
  repeat ((with_reducible refine wpStill_step (fun K hK => ?_)); go_simp; (try go_bits); (with_reducible refine hK _ ?_); clear hK K)
  (with_reducible refine wpStill_nil ?_)
  go_wp2
  go_end0
  exact HP.out _ (.inr (.inr rfl))
theorem end53_any (base bs bf : Nat) (v : Value) (s : List Sp) (fr u : Int) (W : World) (hO : OwnL spc 2 68 W base v s) (hb : base ≤ W.heap.size) (h1 : One W bs v) (h2 : One W bf (.int .i64 fr)) (hd : bs ≠ bf) (hv : ∀ g, v.ownBlock = some g → g ≠ bs ∧ g ≠ bf) (hlen : s.length < 8000) :
    Calls Try.prog 53 #[.int .i64 u, .pointer (some ⟨bs, 0, none⟩), .pointer (some ⟨bf, 0, none⟩)] W (EndPost base bs bf v s fr u W) := by
  by_cases hy : 0 ≤ fr ∧ fr < u
  · rcases List.eq_nil_or_concat s with rfl | ⟨l', y, rfl⟩
    · exact end53_nil base bs bf v fr u W hO hb h1 h2 hd hv hy
    · rw [List.concat_eq_append] at *
      simp only [List.length_append, List.length_cons, List.length_nil] at hlen
      by_cases hne : y.2 = fr
      · exact end53_join base bs bf v l' y fr u W hO hb h1 h2 hd hv hy (by omega) hne
      · exact end53_push base bs bf v l' y fr u W hO hb h1 h2 hd hv hy (by omega) hne
  · exact end53_no base bs bf v s fr u W hO h1 h2 hd hv hy
end Go.Proofs.Ytchdoamoeccjkaa
namespace Go.Proofs.Ytchdoamoeccjkaa
open Go.RowKit Go.Mine Go.Mine.V
open Go.Mine.S (Sp addL)
attribute [local go_sem] Oper.semAt_some

theorem store_funcS {P : Program} {w : World} {a : Addr} {m : Mode} (f : Fn) (x y : Array Value) : (store a (.func f x y) m).run P w = stored P w a (.func f x y) m := run_store P w a _ m rfl
attribute [local go_sem] store_funcS
theorem kept_below {n : Nat} {A W W' : World} {R : Nat → Prop} (h : Kept R W W') (hb : Below n A W) (hn : n ≤ W.heap.size) (hR : ∀ b, b < n → R b) : Below n A W' :=
  hb.trans ⟨h.os, h.tape, h.output, h.size, fun b hb => h.keep b (by omega) (hR b hb)⟩
theorem stW_parts (s : St) (lang : Int) : ∃ o g, stW s = .agg #[.bool o, .int .i64 g] ∧ sight lang s = (o && decide (g = lang)) := by
  rcases s with _ | ⟨o, g⟩
  · exact ⟨false, 0, rfl, rfl⟩
  · refine ⟨o, g, rfl, ?_⟩
    cases o
    · rfl
    · show decide (g = lang) = (true && decide (g = lang)); rw [Bool.true_and]
theorem states54_any (w0 w : World) (A : Option Addr) (c : Nat) (l : List Vi) (who : Int) (hS : Sl viC 4 w0 A c l) (hI : ∀ x ∈ l, ViS x) (hiw : I64 who) (hll : l.length ≤ 4096) (hb : Below w0.heap.size w0 w) :
    Calls Try.prog 54 #[.slice A l.length c, .int .i64 who] w fun e w' => ∃ lb, e = .returned (.func (.func 80) #[] lb) ∧ Below w.heap.size w w' ∧ w'.heap.size = w.heap.size + 2 ∧
      Iter Try.prog 80 lb ((stL who nobody (own who l)).map encSt) (fun x => x < w0.heap.size ∨ (w.heap.size ≤ x ∧ x < w.heap.size + 2)) w' := by
  have hmf : ∀ (fn : Fn) (first cap : Array Value) (w : World), (Instr.makeFunc fn first cap).run Try.prog w = .ok (.func fn first cap) w := fun _ _ _ _ => rfl
  go_enter Try.func54, Try.ntmps54
  go_wp2
  go_ret
  have h1 := (Blk.new w #[.slice A l.length c] 22).alloc (.cells #[.int .i64 who] 3)
  have h2 : Blk ((w.alloc (.cells #[.slice A l.length c] 22)).alloc (.cells #[.int .i64 who] 3)) (w.heap.size + 1) 3 #[.int .i64 who] := Blk.new' (by simp)
  refine ⟨_, rfl, kalloc (kalloc (Below.refl _ _) _) _, by simp, ?_⟩
  exact states80_iter w0 _ A c l who hS hI hiw hll ((hb.alloc hb.size _).alloc (by simp; have := hb.size; omega) _) w.heap.size hb.size (h1.cell 0 rfl) (h2.cell 0 rfl) (by simp)
end Go.Proofs.Ytchdoamoeccjkaa
