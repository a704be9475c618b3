/-
  Rows of bytes as arguments; jobs that are due later and need less, plainly.
-/
import Derived.Test.YtbkokljelopcnaaHM7
namespace Go.Mine.Q
def lat (x : Jb) (a b : Int) : Jb := ⟨x.no, x.ready, min (x.due + a) 1099511627776, max (x.need - b) 1, x.alt⟩
def latL : List Jb → List Int → List Int → List Jb
  | x :: l, a :: p, b :: q => lat x a b :: latL l p q
  | _, _, _ => []
theorem latL_get : ∀ {l : List Jb} {p q : List Int} {k : Nat} {x : Jb} {a b : Int}, l[k]? = some x → p[k]? = some a → q[k]? = some b → (latL l p q)[k]? = some (lat x a b)
  | [], _, _, _, _, _, _, h, _, _ => by simp at h
  | _ :: _, [], _, _, _, _, _, _, h, _ => by simp at h
  | _ :: _, _ :: _, [], _, _, _, _, _, _, h => by simp at h
  | x :: l, a :: p, b :: q, 0, _, _, _, h1, h2, h3 => by
    simp only [List.getElem?_cons_zero, Option.some.injEq] at h1 h2 h3
    subst h1 h2 h3; rfl
  | x :: l, a :: p, b :: q, k + 1, _, _, _, h1, h2, h3 => by
    simp only [List.getElem?_cons_succ] at h1 h2 h3
    unfold latL
    rw [List.getElem?_cons_succ]
    exact latL_get h1 h2 h3
theorem latL_len : ∀ {l : List Jb} {p q : List Int}, p.length = l.length → q.length = l.length → (latL l p q).length = l.length
  | [], p, q, _, _ => by unfold latL; rfl
  | _ :: _, [], _, h, _ => by simp at h
  | _ :: _, _ :: _, [], _, h => by simp at h
  | x :: l, a :: p, b :: q, h1, h2 => by
    unfold latL
    simp only [List.length_cons, Nat.add_right_cancel_iff] at h1 h2 ⊢
    exact latL_len h1 h2
theorem latL_later : ∀ {l : List Jb} {p q : List Int}, p.length = l.length → q.length = l.length → (∀ x ∈ l, rightJ x = true) → (∀ a ∈ p, 0 ≤ a) → (∀ b ∈ q, 0 ≤ b) → Later l (latL l p q) ∧ (∀ y ∈ latL l p q, rightJ y = true ∧ ∃ x ∈ l, y.ready = x.ready)
  | [], p, q, _, _, _, _, _ => by unfold latL; exact ⟨.nil, by simp⟩
  | _ :: _, [], _, h, _, _, _, _ => by simp at h
  | _ :: _, _ :: _, [], _, h, _, _, _ => by simp at h
  | x :: l, a :: p, b :: q, h1, h2, h3, h4, h5 => by
    unfold latL
    simp only [List.length_cons, Nat.add_right_cancel_iff] at h1 h2
    obtain ⟨i1, i2⟩ := latL_later h1 h2 (fun y hy => h3 y (List.mem_cons_of_mem _ hy)) (fun y hy => h4 y (List.mem_cons_of_mem _ hy)) (fun y hy => h5 y (List.mem_cons_of_mem _ hy))
    have hx := rightJ_iff.1 (h3 x (by simp))
    have ha := h4 a (by simp)
    have hb := h5 b (by simp)
    refine ⟨.cons rfl rfl (by unfold lat; dsimp only; omega) (by unfold lat; dsimp only; omega) (by omega) i1, fun y hy => ?_⟩
    rcases List.mem_cons.1 hy with rfl | hy
    · exact ⟨rightJ_iff.2 (by unfold lat; dsimp only; omega), x, by simp, rfl⟩
    · obtain ⟨j1, z, j2, j3⟩ := i2 y hy
      exact ⟨j1, z, List.mem_cons_of_mem _ j2, j3⟩
theorem latL_wt {l : List Jb} {p q : List Int} (h : Wt l) (h1 : p.length = l.length) (h2 : q.length = l.length) (h4 : ∀ a ∈ p, 0 ≤ a) (h5 : ∀ b ∈ q, 0 ≤ b) : Wt (latL l p q) := by
  obtain ⟨i1, i2⟩ := latL_later h1 h2 h.right h4 h5
  refine ⟨okL_iff.2 ⟨fun y hy => (i2 y hy).1, ?_⟩, by rw [latL_len h1 h2]; exact h.len, fun y hy => ?_⟩
  · have h6 := h.inc
    have h7 := i1.nos
    unfold Inc at h6
    rw [← List.pairwise_map (f := fun x : Jb => x.no) (R := fun a b : Int => a < b)] at h6 ⊢
    rw [h7]; exact h6
  · obtain ⟨_, x, hx, e⟩ := i2 y hy
    rw [e]; exact h.wait x hx
end Go.Mine.Q
namespace Go.Proofs.Ytbkokljelopcnaa
open Go.RowKit Go.Mine Go.Mine.Q Go.ChangeShapes Go.WideShapes Go.ChangeAt
def u8c (n : Int) : List Value := [.int .u8 n]
def U8 (n : Int) : Prop := 0 ≤ n ∧ n < 256
section
variable {Hh : Type} {enc : TypeId × Value → Hh} {w : World} {base b0 : Nat} {held : Bool} {r : Reach} {v : Value} {dd : DataW Hh} {ps : List MemPlace}
set_option maxRecDepth 100000 in
theorem u8_el (cs : List Value) (n : Nat) (x : DataW Hh × List MemPlace) (hl : cs.length = 1) (h : DataW.trod enc Try.prog w base (fun _ => true) held n 5 cs = some x) : ∃ y, cs = u8c y ∧ U8 y := by
  match cs, hl with
  | [c0], _ =>
    obtain ⟨z, hz1, _, hz3⟩ := DataW.trod_int Try.underlying5 h
    obtain ⟨m, rfl, hm⟩ := u8_nat hz3
    exact ⟨m, by simpa [u8c] using hz1, by unfold U8; omega⟩
set_option maxRecDepth 100000 in
theorem open_u8s (hv : Value.okWide Try.prog w r b0 57 v) (h : DataW.Trod enc Try.prog w base (fun _ => true) held 57 v dd ps) :
    ∃ (A : Option Addr) (c : Nat) (l : List Int), v = .slice A l.length c ∧ Sl u8c 1 w A c l ∧ (∀ x ∈ l, U8 x) :=
  open_slG (Q := U8) Try.underlying57 (by kernel_rfl) (by decide) (fun _ => rfl) u8_el hv h
end
end Go.Proofs.Ytbkokljelopcnaa
