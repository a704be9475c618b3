/-
  spans.states and spans.result.
-/
import Derived.Test.YtbfgbkblblnbhaaSIter
import Derived.Test.YtbfgbkblblnbhaaSCheck
namespace Go.Proofs.Ytbfgbkblblnbhaa
open Go.RowKit Go.Shelf Go.Mine Go.Mine.H Go.Mine.S
attribute [local go_sem] Oper.semAt_some

theorem states_any (w0 w : World) (A A' : Option Addr) (c c' : Nat) (a b : List Sp) (hSa : Sl bc 2 w0 A c a) (hSb : Sl bc 2 w0 A' c' b) (ga : good (-1) a) (gb : good (-1) b) (la : a.length ≤ 4096) (lb : b.length ≤ 4096) (hb : Below w0.heap.size w0 w) :
    Calls Try.prog 61 #[.slice A a.length c, .slice A' b.length c'] w fun e w' => ∃ l, e = .returned (.func (.func 71) #[] l) ∧ Below w.heap.size w w' ∧ w'.heap.size = w.heap.size + 2 ∧
      Iter Try.prog 71 l ((st false false (ends a) (ends b)).map fun s => #[encS s]) (fun x => x < w0.heap.size ∨ (w.heap.size ≤ x ∧ x < w.heap.size + 2)) w' := by
  have hmf : ∀ (fn : Fn) (first cap : Array Value) (w : World), (Instr.makeFunc fn first cap).run Try.prog w = .ok (.func fn first cap) w := fun _ _ _ _ => rfl
  go_enter Try.func61, Try.ntmps61
  go_wp2
  go_ret
  refine ⟨_, rfl, ((Below.refl _ _).alloc (Nat.le_refl _) _).alloc (by simp) _, by simp, ?_⟩
  exact states1_iter w0 _ A A' c c' a b hSa hSb ga gb la lb ((hb.alloc hb.size _).alloc (by simp; have := hb.size; omega) _) w.heap.size hb.size
    (((Blk.new w #[.slice A a.length c] 30).alloc _).cell 0 rfl) ((Blk.new1 w _ #[.slice A' b.length c'] 30).cell 0 rfl) (by simp)
end Go.Proofs.Ytbfgbkblblnbhaa
