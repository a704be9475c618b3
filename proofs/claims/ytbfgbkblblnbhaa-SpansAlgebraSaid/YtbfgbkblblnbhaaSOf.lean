/-
  hansardlaw13.of: spans of their ends; Few.
-/
import Derived.Test.YtbfgbkblblnbhaaSRef2
import Derived.Test.YtbfgbkblblnbhaaPush2
namespace Go.Proofs.Ytbfgbkblblnbhaa
open Go.RowKit Go.Mine Go.Mine.H Go.Mine.S

def bi (n : Int) : List Value := [.int .i64 n]
set_option maxHeartbeats 1000000 in
theorem of13_any (A : Option Addr) (c : Nat) (ps : List Sp) (w : World) (hS : Sl bi 1 w A c (ends ps)) (hl : ps.length ≤ 100) :
    Calls Try.prog 58 #[.slice A (2 * ps.length) c] w fun e w' => ∃ v, e = .returned v ∧ OwnL bc 2 62 w' w.heap.size v ps ∧ Below w.heap.size w w' := by
  have hlc := hS.le
  rw [ends_length] at hlc
  have hc := hS.max
  obtain ⟨i0, hi, hz0, hz1, hz2⟩ := info_parts Try_info62
  have HI := hide hi
  clear hi
  go_enter Try.func58, Try.ntmps58
  go_wp2
  go_loopw [2, 3] (fun v i wr => ∃ k : Nat, k ≤ ps.length ∧ i = .int .i64 (2 * (k : Int)) ∧ Below w.heap.size w wr ∧ OwnL bc 2 62 wr w.heap.size v (ps.take k)) (fun _ i _ => 2 * ps.length - (intOf i).toNat)
  case atStart => exact ⟨0, by omega, rfl, Below.refl _ _, OwnL.nil _ _ _ _ _⟩
  case round =>
    obtain ⟨k, hk, rfl, hb, hO⟩ := hrel
    have hN := hb.size
    by_cases hlt : k < ps.length
    · have hx : ps[k]? = some ps[k] := List.getElem?_eq_getElem hlt
      generalize ps[k] = x at hx
      obtain ⟨x1, x2⟩ := ends_get ps k x hx
      have hne : ends ps ≠ [] := by intro h; have := congrArg List.length h; rw [ends_length] at this; simp at this; omega
      obtain ⟨bb, off, rfl, hbw, hget⟩ := Sl.addr (hS.bel hb) hne
      have f1 := hget (2 * k) _ x1 0 (.int .i64 x.1) rfl
      have f2 := hget (2 * k + 1) _ x2 0 (.int .i64 x.2) rfl
      simp only [Nat.mul_one, Nat.add_zero] at f1 f2
      have f2b := f2
      rw [← Nat.add_assoc] at f2b
      have e1 := hide (take_of_get hx)
      have HO := hide hO
      have hlen : (ps.take k).length ≤ 100 := Nat.le_trans (List.length_take_le' _ _) hl
      have gi : ((2 * (k : Int)).toNat) = 2 * k := by omega
      have gj : ((2 * (k : Int) + 1).toNat) = 2 * k + 1 := by omega
      have g1 : 2 * (k : Int) + 1 < 2 * (ps.length : Int) := by omega
      have g2 : 2 * (k : Int) < 2 * (ps.length : Int) := by omega
      have g5 : 0 ≤ 2 * (k : Int) := by omega
      have g6 : 0 ≤ 2 * (k : Int) + 1 := by omega
      have hone : ∀ y ∈ [x], ∀ u ∈ bc y, u.oneCell' = true := by intro y hy u hu; simp at hy; subst hy; simp [bc] at hu; rcases hu with rfl | rfl <;> rfl
      have hlt' : bb < wr.heap.size := hbw
      have hwr : IntKind.i64.wrap (2 * (k : Int) + 1) = 2 * (k : Int) + 1 := IntWalk.i64_in _ (by omega)
      clear hO hx x1 x2 hget hne
      generalize ps.take k = la at HO hlen e1
      go_wp2_with fail
      go_region_law (first
        | (refine step_append (u := .slice (some ⟨_, 0, none⟩) 1 1) rfl (.tmp 11) (.tmp 22) 30 rfl rfl rfl (run_extend (f := bc) (base := w.heap.size) (l1 := la) (l2 := [x]) Try.underlying30 HI.out hz0 hz1 hz2 rfl (by decide) (HO.out.alloc _).drew (Sl.one (Blk.new wr _ _).drew rfl rfl (by decide) (by decide)) hone (by simp only [maxLen, List.length_cons, List.length_nil]; omega) (by simp only [List.length_cons, List.length_nil]; omega) (by simp; omega)) ?_
           rintro v' w2 ⟨hO2, hgr, hat⟩))
      all_goals
        have H2 := hide hO2
        have hb2 := Below.grown (kalloc hb _).drew hgr (by simp; omega) (fun g hg => (HO.out.blk hg).1)
        clear hO2 hgr hat
        go_wp2
        go_roundw
        case rel => exact ⟨k + 1, by omega, val_int (by omega), hb2, by rw [e1.out]; exact H2.out⟩
        case measure => simp [intOf]; omega
    · obtain rfl : k = ps.length := by omega
      rw [List.take_length] at hO
      have H := hide hO
      have g1 : ¬ (2 * (ps.length : Int) + 1 < 2 * (ps.length : Int)) := by omega
      clear hO
      go_wp2
      go_ret
      exact ⟨_, rfl, H.out, hb⟩
def few13 (l : List Sp) : Bool := decide (l.length ≤ 30) || (decide (4096 < l.length) && decide (l.length ≤ 5000))
theorem few13_any (A : Option Addr) (c : Nat) (l : List Sp) (w : World) (hS : Sl bc 2 w A c l) :
    Calls Try.prog 30 #[.slice A l.length c] w fun e w' => e = .returned (.bool (few13 l)) ∧ w = w' := by
  have hlc := hS.le
  have hc := hS.max
  clear hS
  by_cases h1 : l.length ≤ 30
  · have g1 : decide ((l.length : Int) ≤ 30) = true := by simp; omega
    go_enter Try.func30, Try.ntmps30
    go_wp2
    go_ret
    exact ⟨ret_bool (by simp [few13, h1]), rfl⟩
  · have g1 : decide ((l.length : Int) ≤ 30) = false := by simp; omega
    by_cases h2 : 4096 < l.length
    · have g2 : decide ((4096 : Int) < l.length) = true := by simp; omega
      by_cases h3 : l.length ≤ 5000
      · have g3 : decide ((l.length : Int) ≤ 5000) = true := by simp; omega
        go_enter Try.func30, Try.ntmps30
        go_wp2
        go_ret
        exact ⟨ret_bool (by simp [few13, h2, h3]), rfl⟩
      · have g3 : decide ((l.length : Int) ≤ 5000) = false := by simp; omega
        go_enter Try.func30, Try.ntmps30
        go_wp2
        go_ret
        exact ⟨ret_bool (by simp [few13, h1, h3]), rfl⟩
    · have g2 : decide ((4096 : Int) < l.length) = false := by simp; omega
      go_enter Try.func30, Try.ntmps30
      go_wp2
      go_ret
      exact ⟨ret_bool (by simp [few13, h1, h2]), rfl⟩
end Go.Proofs.Ytbfgbkblblnbhaa
