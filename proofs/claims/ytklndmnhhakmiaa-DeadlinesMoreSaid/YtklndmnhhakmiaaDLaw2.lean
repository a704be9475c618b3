/-
  deadlines: sums of dues.
-/
import Derived.Test.YtklndmnhhakmiaaDLaw
namespace Go.Proofs.Ytklndmnhhakmiaa
open Go.RowKit Go.Mine Go.Mine.B
attribute [local go_sem] Oper.semAt_some
/-- when words of all languages are due -/
def duB (L : List Bu) (u : Int) : List Bu := L.map fun y => ⟨y.lang, tq y.q u⟩
theorem duB_len (L : List Bu) (u : Int) : (duB L u).length = L.length := by simp [duB]
theorem duB_at {L : List Bu} {u : Int} {k : Nat} {y : Bu} (h : L[k]? = some y) : (duB L u)[k]? = some ⟨y.lang, tq y.q u⟩ := by simp [duB, h]
theorem sum_add (u : Int) (f : Bu → Int) : ∀ L : List Bu, (L.map fun y => u + f y).sum = L.length * u + (L.map f).sum
  | [] => by simp
  | y :: L => by
    rw [List.map_cons, List.sum_cons, sum_add u f L, List.map_cons, List.sum_cons, List.length_cons]
    rw [Int.natCast_add, Int.add_mul]; omega
theorem duB_sum (L : List Bu) (u : Int) {s : Int} (hs : stage s) : ((duB L u).map fun y => qg y.q s).sum = L.length * u + (L.map fun y => path y.q s).sum := by
  rw [← sum_add]
  unfold duB
  rw [List.map_map]
  congr 1
  refine List.map_congr_left fun y _ => ?_
  exact qg_tq _ _ hs
theorem sumQ_due {b : List Bu} {l : List Tr} (h : chkB b l = true) (u k : Int) : sumQ (duB (standing b l u k) u) = sumQ (duB b u) := by
  unfold sumQ
  rw [sumQ_go, sumQ_go]
  have e : ∀ s : Int, stage s → ((duB (standing b l u k) u).map fun y => qg y.q s).sum = ((duB b u).map fun y => qg y.q s).sum := fun s hs => by
    rw [duB_sum _ _ hs, duB_sum _ _ hs, path_sum h, standing_len]
  rw [e 0 ⟨by omega, by omega⟩, e 1 ⟨by omega, by omega⟩, e 2 ⟨by omega, by omega⟩, e 3 ⟨by omega, by omega⟩]
def okW (n : Nat) (a : Q) : Prop := (0 ≤ a.1 ∧ a.1 ≤ n * 1103806595072) ∧ (0 ≤ a.2.1 ∧ a.2.1 ≤ n * 1103806595072) ∧ (0 ≤ a.2.2.1 ∧ a.2.2.1 ≤ n * 1103806595072) ∧ (0 ≤ a.2.2.2 ∧ a.2.2.2 ≤ n * 1103806595072)
def okT (q : Q) : Prop := (0 ≤ q.1 ∧ q.1 ≤ 1103806595072) ∧ (0 ≤ q.2.1 ∧ q.2.1 ≤ 1103806595072) ∧ (0 ≤ q.2.2.1 ∧ q.2.2.1 ≤ 1103806595072) ∧ (0 ≤ q.2.2.2 ∧ q.2.2.2 ≤ 1103806595072)
theorem okT_tq {q : Q} (h : okQ q) {u : Int} (hu : timeB u = true) : okT (tq q u) := by
  have h0 := path_ok h 0
  have h1 := path_ok h 1
  have h2 := path_ok h 2
  have h3 := path_ok h 3
  have hu := timeB_iff.1 hu
  unfold okT tq
  simp only
  omega
theorem okW_next {n : Nat} {a q : Q} (h : okW n a) (hq : okT q) : okW (n + 1) (addS a q 4) := by
  rw [addS_four]
  unfold okW okT at *
  simp only
  omega
theorem okW_get {n : Nat} {a : Q} (h : okW n a) (s : Int) : 0 ≤ qg a s ∧ qg a s ≤ n * 1103806595072 := by
  obtain ⟨h1, h2, h3, h4⟩ := h
  unfold qg
  split
  · exact h1
  · split
    · exact h2
    · split
      · exact h3
      · exact h4
theorem okT_get {a : Q} (h : okT a) (s : Int) : 0 ≤ qg a s ∧ qg a s ≤ 1103806595072 := by
  obtain ⟨h1, h2, h3, h4⟩ := h
  unfold qg
  split
  · exact h1
  · split
    · exact h2
    · split
      · exact h3
      · exact h4
/-- the time before a stage -/
def lastT (q : Q) (u : Int) : Nat → Int
  | 0 => u
  | s + 1 => u + path q (s : Int)
theorem lastT_le {q : Q} (h : okQ q) (u : Int) {s : Nat} (hs : s < 4) : lastT q u s ≤ u + path q (s : Int) := by
  cases s with
  | zero => have := path_ok h 0; show u ≤ u + path q 0; omega
  | succ s =>
    have := path_mono h (s := (s : Int)) (r := ((s + 1 : Nat) : Int)) ⟨by omega, by omega⟩ ⟨by omega, by omega⟩ (by omega)
    simp only [lastT]; omega
theorem has_mem {b : List Bu} {y : Bu} (h : y ∈ b) : has b y.lang = true := by
  unfold has; exact List.any_eq_true.2 ⟨y, h, by simp⟩
/-- what stands, one by one -/
theorem stand_at {b : List Bu} {l : List Tr} (h : chkB b l = true) (u k : Int) {i : Nat} {y : Bu} (hy : b[i]? = some y) :
    (standing b l u k)[i]? = some ⟨y.lang, stq b l y.lang u k⟩ ∧ okQ (stq b l y.lang u k) ∧ rightB ⟨y.lang, stq b l y.lang u k⟩ = true ∧ okQ y.q := by
  have hm := List.mem_of_getElem? hy
  have hq := okQ_stq h y.lang u k
  refine ⟨?_, hq, ok_right hq (rightB_ok ((chkB_parts h).1 y hm)).2, (rightB_ok ((chkB_parts h).1 y hm)).1⟩
  unfold standing viewB
  rw [List.getElem?_map, hy]; rfl
section
variable {A B : Option Addr} {c d : Nat} {b : List Bu} {l : List Tr} {w : World}
theorem due26_at (hz : chk 400 b l = 0) (hI : buS b) (hJ : trS l) {y : Bu} (hy : y ∈ b) {u k : Int} (hu : timeB u = true) (hk : timeB k = true) (hS : Sl buC 5 w A c b) (hT : Sl trC 7 w B d l) :
    Calls Try.prog 26 #[.slice A b.length c, .slice B l.length d, .int .i64 y.lang, .int .i64 u, .int .i64 k] w (DueE (tq (stq b l y.lang u k) u, 0) w) := by
  have K := due26 A c b B d l y.lang u k w hS hT hI hJ
  rw [dueV_good hz (by rw [hu, hk, has_mem hy]; rfl)] at K
  exact K
theorem due26_nil (hz : chk 400 b l = 0) (hI : buS b) {y : Bu} (hy : y ∈ b) {u k : Int} (hu : timeB u = true) (hk : timeB k = true) (hS : Sl buC 5 w A c b) :
    Calls Try.prog 26 #[.slice A b.length c, .slice none 0 0, .int .i64 y.lang, .int .i64 u, .int .i64 k] w (DueE (tq y.q u, 0) w) := by
  have K := due26 A c b none 0 [] y.lang u k w hS (str_nil w) hI (by intro x hx; simp at hx)
  rw [dueV_good (chk_sub hz (List.nil_sublist l)) (by rw [hu, hk, has_mem hy]; rfl), stq_nil (chkB_parts (chk_zero' hz).1).2.1 hy] at K
  exact K
end
theorem path16_ok {y : Bu} {s : Nat} (h : rightB y = true) (hs : s < 4) (w : World) : Calls Try.prog 16 #[buV y, .int .i64 (s : Int)] w fun e w' => e = .returned (.tuple #[.int .i64 (path y.q (s : Int)), .int .i64 0]) ∧ Below w.heap.size w w' := by
  have k := path16 y (s : Int) w
  have e : pathR y (s : Int) = (path y.q (s : Int), 0) := by
    unfold pathR
    rw [if_pos h, if_pos (inR_iff.2 ⟨by omega, by omega⟩)]
  rw [e] at k; exact k
theorem times31_two (u k : Int) (W : World) (g : Nat) (hg : W.heap.size = g) : Calls Try.prog 31 #[.slice (some ⟨g, 0, none⟩) 2 2] (W.alloc (.cells #[.int .i64 u, .int .i64 k] 3)) fun e w' => e = .returned (.bool (timeB u && timeB k)) ∧ W.alloc (.cells #[.int .i64 u, .int .i64 k] 3) = w' := by
  subst hg
  have hs : Sl ic 1 (W.alloc (.cells #[.int .i64 u, .int .i64 k] 3)) (some ⟨W.heap.size, 0, none⟩) 2 [u, k] := blit ic 1 W 3 [u, k] 2 rfl rfl (fun _ _ => rfl) rfl (by decide)
  have h := times31 (some ⟨W.heap.size, 0, none⟩) 2 [u, k] (W.alloc (.cells #[.int .i64 u, .int .i64 k] 3)) hs
  simp only [List.all_cons, List.all_nil, Bool.and_true, List.length_cons, List.length_nil, Nat.zero_add, Nat.reduceAdd] at h
  exact h
theorem ix24 (a1 a2 a3 a4 : Int) (s : Nat) (hs : s < 4) (W : World) : (Instr.index 24 (.agg #[.int .i64 a1, .int .i64 a2, .int .i64 a3, .int .i64 a4]) (.int .i64 (s : Int))).run Try.prog W = .ok (.int .i64 (qg (a1, a2, a3, a4) (s : Int))) W := by
  have h : s = 0 ∨ s = 1 ∨ s = 2 ∨ s = 3 := by omega
  have t := run_underlying Try.underlying24
  rcases h with rfl | rfl | rfl | rfl
  all_goals
    simp [Instr.index, go_sem, t, Try.sizeOf3, qg, part]
end Go.Proofs.Ytklndmnhhakmiaa
