/-
  slices.Backward: the iterator.
-/
import Derived.Test.YtchdoamoeccjkaaRKeys
import Derived.Test.YtchdoamoeccjkaaBase2
namespace Go.Proofs.Ytchdoamoeccjkaa
open Go.RowKit Go.Shelf Go.Mine
attribute [local go_sem] Oper.semAt_some

theorem Sl.ic_at {w : World} {A : Option Addr} {c : Nat} {l : List Int} (h : Sl ic 1 w A c l) {k : Nat} (hk : k < l.length) : ∃ (x : Int) (b off : Nat), l[k]? = some x ∧ l.drop k = x :: l.drop (k + 1) ∧ A = some ⟨b, off, none⟩ ∧ b < w.heap.size ∧ w.cell? ⟨b, off + k, none⟩ = some (.int .i64 x) := by
  obtain ⟨x, b, off, hx, hd, e, hb, hc⟩ := h.at_ hk
  exact ⟨x, b, off, hx, hd, e, hb, by simpa using hc 0 _ rfl⟩
/-- index and element, the last first -/
def bk (l : List Int) : List (Int × Int) := (l.zipIdx.map fun p => ((p.2 : Int), p.1)).reverse
theorem bk_length (l : List Int) : (bk l).length = l.length := by simp [bk]
theorem bk_get {l : List Int} {k i : Nat} {x : Int} (hi : l[i]? = some x) (hk : k + i + 1 = l.length) : (bk l)[k]? = some ((i : Int), x) := by
  unfold bk
  rw [List.getElem?_reverse (by simp; omega)]
  simp only [List.length_map, List.length_zipIdx, List.getElem?_map, List.getElem?_zipIdx, Nat.zero_add]
  rw [show l.length - 1 - k = i by omega, hi]
  simp
theorem bk_snd (l : List Int) : (bk l).map (fun p => p.2) = l.reverse := by
  unfold bk
  rw [List.map_reverse, List.map_map]
  congr 1
  exact List.zipIdx_map_fst 0 l
set_option maxHeartbeats 1000000 in
theorem back105_iter (w1 : World) (B : Nat) (A : Option Addr) (c : Nat) (l : List Int) (hS : Sl ic 1 w1 A c l) (hB : w1.cell? ⟨B, 0, none⟩ = some (.slice A l.length c)) :
    Iter Try.prog 105 #[.pointer (some ⟨B, 0, none⟩)] ((bk l).map fun p => #[.int .i64 p.1, .int .i64 p.2]) (fun b => b < w1.heap.size ∧ (b = B ∨ ∃ off, A = some ⟨b, off, none⟩)) w1 := by
  intro n lp J Jx W hw hR hJ hJx hY h0
  have hBl : B < w1.heap.size := by
    rcases Nat.lt_or_ge B w1.heap.size with h | h
    · exact h
    · simp [World.cell?, Array.getElem?_eq_none h] at hB
  have hmax := hS.max
  have hle := hS.le
  refine callsIn_of_wp Try.func105 rfl trivial ?_ rfl
  simp only [Try.ntmps105, List.size_toArray, List.length_cons, List.length_nil, Nat.reduceAdd, Nat.reduceSub, Array.replicate_succ, Array.replicate_zero, List.push_toArray, List.append_toArray, List.nil_append, List.cons_append]
  have d1 : W.cell? ⟨B, 0, none⟩ = some (.slice A l.length c) := (World.cell?_of_block (a := ⟨B, 0, none⟩) (hR B ⟨hBl, .inl rfl⟩).2).trans hB
  gi_wp2
  gi_loopw [3] (fun i wr => ∃ (k : Nat) (O : Nat → Prop), i = .int .i64 ((l.length : Int) - 1 - k) ∧ k ≤ l.length ∧ J k O wr ∧ (∀ b, O b → W.heap.size ≤ b ∧ b < wr.heap.size) ∧ W.heap.size ≤ wr.heap.size ∧
      (∀ b, b < w1.heap.size ∧ (b = B ∨ ∃ off, A = some ⟨b, off, none⟩) → wr.heap[b]? = W.heap[b]?)) (fun i _ => (nI i + 1).toNat)
  case atStart => exact ⟨0, _, by go_num, Nat.zero_le _, h0, fun _ h => h.elim, Nat.le_refl _, fun _ _ => rfl⟩
  case round =>
    obtain ⟨k, O, rfl, hk, hj, hO, hz, hkeep⟩ := hrel
    by_cases hlt : k < l.length
    · have hHeap : ∀ b, b < w1.heap.size ∧ (b = B ∨ ∃ off, A = some ⟨b, off, none⟩) → wr.heap[b]? = w1.heap[b]? := fun b h => (hkeep b h).trans (hR b h).2
      have e0 : wr.cell? ⟨B, 0, none⟩ = some (.slice A l.length c) := (World.cell?_of_block (a := ⟨B, 0, none⟩) (hHeap B ⟨hBl, .inl rfl⟩)).trans hB
      obtain ⟨i, hi⟩ : ∃ i : Nat, k + i + 1 = l.length := ⟨l.length - 1 - k, by omega⟩
      obtain ⟨x, b, off, hx, _, rfl, hbw, hcx⟩ := hS.ic_at (k := i) (by omega)
      have f1 : wr.cell? ⟨b, off + i, none⟩ = some (.int .i64 x) := (World.cell?_of_block (a := ⟨b, off + i, none⟩) (hHeap b ⟨hbw, .inr ⟨off, rfl⟩⟩)).trans hcx
      have hn := bk_get hx hi
      have hei : (l.length : Int) - 1 - k = i := by omega
      have hY' := hY _ _ O wr (by rw [List.getElem?_map, hn]; rfl) hj hO hz
      obtain ⟨fn, tmps, assign, body, hyy, hRR⟩ := hY'
      have HY := hide @hY
      have HO := hide hO
      have Hk := hide hkeep
      have hle2 : (i : Int) < l.length := by omega
      have g0 : decide (0 ≤ (i : Int)) = true := by simp
      rw [hei]
      clear hB hcx d1 hY hn hx hR hkeep hHeap hO
      gi_wp2
      refine hRR.mono ?_
      rintro e W' ⟨hK, (⟨rfl, hj'⟩ | ⟨rfl, hjx⟩)⟩
      · gi_wp2
        go_roundw
        case rel =>
          refine ⟨k + 1, O, by go_num, by omega, hj', fun b hb => ?_, Nat.le_trans hz hK.size, fun b hb => ?_⟩
          · have := HO.out b hb; have := hK.size; omega
          · exact (hK.keep b (by have := hb.1; omega) (.inr hb)).trans (Hk.out b hb)
        case measure => (first | (simp [nI]; done) | (simp [nI]; omega))
      · gi_wp2
        refine bodyPost_ret (results_none rfl _ _ _) rfl ?_
        exact ⟨⟨_, rfl⟩, O, fun b hb => by have := HO.out b hb; have := hK.size; omega, Nat.le_trans hz hK.size, .inr hjx⟩
    · have hei : (l.length : Int) - 1 - k = -1 := by omega
      rw [hei]
      gi_wp2
      go_end0
      have : k = l.length := by omega
      subst this
      exact ⟨⟨_, rfl⟩, O, hO, hz, .inl (by rw [List.length_map, bk_length]; exact hj)⟩
theorem back84_any (v : Value) (w : World) (A : Option Addr) (n c : Nat) (hv : v = .slice A n c) : Calls Try.prog 84 #[v] w fun e w' => e = .returned (.func (.func 105) #[] #[.pointer (some ⟨w.heap.size, 0, none⟩)]) ∧ w' = w.alloc (.cells #[.slice A n c] 33) := by
  subst hv
  go_enter Try.func84, Try.ntmps84
  go_wp2
  go_ret
  exact ⟨rfl, rfl⟩
end Go.Proofs.Ytchdoamoeccjkaa
