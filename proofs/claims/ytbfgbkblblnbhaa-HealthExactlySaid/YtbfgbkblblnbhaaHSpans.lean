/-
  health.Spans.
-/
import Derived.Test.YtbfgbkblblnbhaaHHeard3
import Derived.Test.YtbfgbkblblnbhaaHJoin
namespace Go.Proofs.Ytbfgbkblblnbhaa
open Go.RowKit Go.Shelf Go.Mine Go.Mine.H
attribute [local go_sem] Oper.semAt_some

def spansOk (l : List Beat) (n q : Int) : Bool := (chk l == 0) && argsOk n q
def spansE (l : List Beat) (n q : Int) : Int := if chk l = 0 then if argsOk n q = true then 0 else 1 else chk l
def spansL (l : List Beat) (n q : Int) : List (Int × Int) := if chk l = 0 ∧ argsOk n q = true then spansGo q [] (ofL l n false) else []

theorem ofL_length (l : List Beat) (n : Int) (b : Bool) : (ofL l n b).length ≤ l.length := by
  unfold ofL; rw [List.length_map]
  exact Nat.le_trans (List.length_filter_le _ _) (by rw [dir_length]; exact Nat.le_refl _)

theorem Spans_bad (A : Option Addr) (c : Nat) (l : List Beat) (n q : Int) (w : World) (hS : Sl bc 2 w A c l) (hne : spansOk l n q = false) :
    Calls Try.prog 21 #[.slice A l.length c, .int .i64 n, .int .i64 q] w fun e w' => e = .returned (.tuple #[.slice none 0 0, .int .i64 (spansE l n q)]) ∧ Below w.heap.size w w' := by
  by_cases hz : chk l = 0
  · have ha : argsOk n q = false := by simpa [spansOk, hz] using hne
    have E := hide (show spansE l n q = 1 by simp [spansE, hz, ha])
    have K47 := hide (fun w (hS : Sl bc 2 w A c l) => checkF_false A c l w hS hz)
    clear hz hne
    by_cases h1 : withinB n 0 15 = true
    · have h2 : withinB q 1 1073741824 = false := by simpa [argsOk, h1] using ha
      clear ha
      go_enter Try.func21, Try.ntmps21
      go_wp2_with (first | (go_at_call 48; refine (isSource_any _ _).mono ?_; rintro e w' ⟨rfl, rfl⟩) | (go_at_call 49; refine (within_any _ _ _ _).mono ?_; rintro e w' ⟨rfl, rfl⟩) | (go_at_call 47; refine (K47.out _ ((hS.alloc _).alloc _)).mono ?_; rintro e w1 ⟨rfl, hb1⟩; obtain ⟨k1, k2⟩ := bcell hb1; have hz1 := hb1.size; simp at hz1))
      refine bodyPost_ret (v := .tuple #[.slice none 0 0, .int .i64 1]) (by simp [results, Try.results21, go_sem, k1]) rfl ⟨by rw [E.out], ?_⟩
      exact (((((Below.refl _ _).alloc (Nat.le_refl _) _).alloc (by simp) _).trans (hb1.mono (by simp; omega)))).setCell (by dsimp only; omega) _
    · have h1' : withinB n 0 15 = false := by simpa using h1
      clear ha h1
      go_enter Try.func21, Try.ntmps21
      go_wp2_with (first | (go_at_call 48; refine (isSource_any _ _).mono ?_; rintro e w' ⟨rfl, rfl⟩) | (go_at_call 49; refine (within_any _ _ _ _).mono ?_; rintro e w' ⟨rfl, rfl⟩) | (go_at_call 47; refine (K47.out _ ((hS.alloc _).alloc _)).mono ?_; rintro e w1 ⟨rfl, hb1⟩; obtain ⟨k1, k2⟩ := bcell hb1; have hz1 := hb1.size; simp at hz1))
      refine bodyPost_ret (v := .tuple #[.slice none 0 0, .int .i64 1]) (by simp [results, Try.results21, go_sem, k1]) rfl ⟨by rw [E.out], ?_⟩
      exact (((((Below.refl _ _).alloc (Nat.le_refl _) _).alloc (by simp) _).trans (hb1.mono (by simp; omega)))).setCell (by dsimp only; omega) _
  · have E := hide (show spansE l n q = chk l by simp [spansE, hz])
    have hn : (chk l != 0) = true := by simp [hz]
    have K47 := hide (fun fine w (hS : Sl bc 2 w A c l) => checkF_bad A c l fine w hS hz)
    clear hz hne
    go_enter Try.func21, Try.ntmps21
    go_wp2_with (first | (go_at_call 48; refine (isSource_any _ _).mono ?_; rintro e w' ⟨rfl, rfl⟩) | (go_at_call 49; refine (within_any _ _ _ _).mono ?_; rintro e w' ⟨rfl, rfl⟩) | (go_at_call 47; refine (K47.out _ _ ((hS.alloc _).alloc _)).mono ?_; rintro e w1 ⟨rfl, hb1⟩; obtain ⟨k1, k2⟩ := bcell hb1; have hz1 := hb1.size; simp at hz1))
    all_goals
      refine bodyPost_ret (v := .tuple #[.slice none 0 0, .int .i64 (chk l)]) (by simp [results, Try.results21, go_sem, k1]) rfl ⟨by rw [E.out], ?_⟩
      exact (((((Below.refl _ _).alloc (Nat.le_refl _) _).alloc (by simp) _).trans (hb1.mono (by simp; omega)))).setCell (by dsimp only; omega) _
end Go.Proofs.Ytbfgbkblblnbhaa
