/-
  Layer 13 (spans), plainly: the list that the program makes of two right lists by a rule: a right list of the times that the rule says; how many.
-/
import Derived.Test.YtchdoamoeccjkaaSPure
namespace Go.Mine.S

theorem ends_low : ∀ (l : List Sp) (last : Int), good last l → ∀ x ∈ ends l, last < x ∧ x ≤ 1099511627776
  | [], _, _, x, hx => by simp [ends] at hx
  | y :: r, last, ⟨h1, h2, h3, h4⟩, x, hx => by
    unfold ends at hx
    rcases List.mem_cons.1 hx with rfl | hx
    · omega
    rcases List.mem_cons.1 hx with rfl | hx
    · omega
    have := ends_low r y.2 h4 x hx
    omega
theorem ends_sorted : ∀ (l : List Sp) (last : Int), good last l → (ends l).Pairwise (· < ·)
  | [], _, _ => by simp [ends]
  | y :: r, last, ⟨h1, h2, h3, h4⟩ => by
    unfold ends
    have hl := ends_low r y.2 h4
    refine List.pairwise_cons.2 ⟨fun x hx => ?_, List.pairwise_cons.2 ⟨fun x hx => (hl x hx).1, ends_sorted r y.2 h4⟩⟩
    rcases List.mem_cons.1 hx with rfl | hx
    · exact h2
    · have := hl x hx; omega
theorem st_mem (p q : Bool) (xs ys : List Int) : ∀ s ∈ st p q xs ys, s.1 ∈ xs ∨ s.1 ∈ ys := by
  fun_induction st p q xs ys with
  | case1 => simp
  | case2 p q x xs ih =>
    intro s hs
    rcases List.mem_cons.1 hs with rfl | hs
    · simp
    · have := ih s hs; simp at this ⊢; exact .inr this
  | case3 p q y ys ih =>
    intro s hs
    rcases List.mem_cons.1 hs with rfl | hs
    · simp
    · have := ih s hs; simp at this ⊢; exact .inr this
  | case4 p q x xs y ys h ih =>
    intro s hs
    rcases List.mem_cons.1 hs with rfl | hs
    · simp
    · rcases ih s hs with h | h
      · exact .inl (List.mem_cons_of_mem _ h)
      · exact .inr h
  | case5 p q x xs y ys h h' ih =>
    intro s hs
    rcases List.mem_cons.1 hs with rfl | hs
    · simp
    · rcases ih s hs with h | h
      · exact .inl h
      · exact .inr (List.mem_cons_of_mem _ h)
  | case6 p q x xs y ys h h' ih =>
    intro s hs
    rcases List.mem_cons.1 hs with rfl | hs
    · simp
    · rcases ih s hs with h | h
      · exact .inl (List.mem_cons_of_mem _ h)
      · exact .inr (List.mem_cons_of_mem _ h)
theorem st_sorted (p q : Bool) (xs ys : List Int) (hx : xs.Pairwise (· < ·)) (hy : ys.Pairwise (· < ·)) : ((st p q xs ys).map (·.1)).Pairwise (· < ·) := by
  have low : ∀ (p q : Bool) (u : Int) (xs ys : List Int), (∀ x ∈ xs, u < x) → (∀ y ∈ ys, u < y) → ∀ v ∈ (st p q xs ys).map (·.1), u < v := by
    intro p q u xs ys h1 h2 v hv
    obtain ⟨s, hs, rfl⟩ := List.mem_map.1 hv
    rcases st_mem p q xs ys s hs with h | h
    · exact h1 _ h
    · exact h2 _ h
  fun_induction st p q xs ys with
  | case1 => simp
  | case2 p q x xs ih =>
    obtain ⟨a, b⟩ := List.pairwise_cons.1 hx
    rw [List.map_cons]
    exact List.pairwise_cons.2 ⟨low _ _ _ _ _ a (by simp), ih b hy⟩
  | case3 p q y ys ih =>
    obtain ⟨a, b⟩ := List.pairwise_cons.1 hy
    rw [List.map_cons]
    exact List.pairwise_cons.2 ⟨low _ _ _ _ _ (by simp) a, ih hx b⟩
  | case4 p q x xs y ys h ih =>
    obtain ⟨a, b⟩ := List.pairwise_cons.1 hx
    obtain ⟨a', b'⟩ := List.pairwise_cons.1 hy
    rw [List.map_cons]
    refine List.pairwise_cons.2 ⟨low _ _ _ _ _ a (fun z hz => ?_), ih b hy⟩
    rcases List.mem_cons.1 hz with rfl | hz
    · exact h
    · have := a' z hz; dsimp only; omega
  | case5 p q x xs y ys h h' ih =>
    obtain ⟨a, b⟩ := List.pairwise_cons.1 hx
    obtain ⟨a', b'⟩ := List.pairwise_cons.1 hy
    rw [List.map_cons]
    refine List.pairwise_cons.2 ⟨low _ _ _ _ _ (fun z hz => ?_) a', ih hx b'⟩
    rcases List.mem_cons.1 hz with rfl | hz
    · exact h'
    · have := a z hz; dsimp only; omega
  | case6 p q x xs y ys h h' ih =>
    obtain ⟨a, b⟩ := List.pairwise_cons.1 hx
    obtain ⟨a', b'⟩ := List.pairwise_cons.1 hy
    rw [List.map_cons]
    have e : x = y := by omega
    exact List.pairwise_cons.2 ⟨low _ _ _ _ _ a (fun z hz => by have := a' z hz; dsimp only; omega), ih b b'⟩
theorem st_length (p q : Bool) (xs ys : List Int) : (st p q xs ys).length ≤ xs.length + ys.length := by
  fun_induction st p q xs ys <;> simp only [List.length_cons, List.length_nil] at * <;> omega
def par (p : Bool) : List Int → Bool
  | [] => p
  | _ :: r => par (!p) r
theorem par_ends : ∀ (l : List Sp) (p : Bool), par p (ends l) = p
  | [], _ => rfl
  | x :: r, p => by unfold ends par par; rw [par_ends r]; simp
theorem fin_st (f : Bool → Bool → Bool) (p q : Bool) (xs ys : List Int) : fin f (f p q) (st p q xs ys) = f (par p xs) (par q ys) := by
  fun_induction st p q xs ys <;> simp_all [fin, par]

/-- what the program makes of two lists by a rule -/
def uni (f : Bool → Bool → Bool) (a b : List Sp) : List Sp := resGo f (-1) [] (st false false (ends a) (ends b))
section
variable {f : Bool → Bool → Bool} {a b : List Sp}
theorem uni_S (hf : f false false = false) (ha : good (-1) a) (hb : good (-1) b) :
    ((st false false (ends a) (ends b)).map (·.1)).Pairwise (· < ·) ∧ (∀ s ∈ st false false (ends a) (ends b), 0 ≤ s.1 ∧ s.1 ≤ 1099511627776) ∧ fin f false (st false false (ends a) (ends b)) = false := by
  refine ⟨st_sorted _ _ _ _ (ends_sorted a _ ha) (ends_sorted b _ hb), fun s hs => ?_, ?_⟩
  · rcases st_mem _ _ _ _ s hs with h | h
    · have := ends_low a _ ha _ h; omega
    · have := ends_low b _ hb _ h; omega
  · have := fin_st f false false (ends a) (ends b)
    rw [hf, par_ends, par_ends, hf] at this
    exact this
theorem uni_in (hf : f false false = false) (ha : good (-1) a) (hb : good (-1) b) (t : Int) : inL (uni f a b) t = f (inL a t) (inL b t) := by
  obtain ⟨h1, h2, h3⟩ := uni_S hf ha hb
  unfold uni
  rw [res_in f t _ (-1) [] false ⟨by simp, fun _ => rfl⟩ h1 (fun s hs => ⟨(h2 s hs).1, by simp⟩) h3]
  have := cur_st f false false (ends a) (ends b) t (ends_sorted a _ ha) (ends_sorted b _ hb)
  rw [hf] at this
  rw [this, inL_eq a _ t ha, inL_eq b _ t hb]
  simp [inL]
theorem uni_good (hf : f false false = false) (ha : good (-1) a) (hb : good (-1) b) : good (-1) (uni f a b) := by
  obtain ⟨h1, h2, h3⟩ := uni_S hf ha hb
  exact res_good f _ (-1) [] false ⟨by simp, fun _ => rfl⟩ h1 (fun s hs => ⟨(h2 s hs).1, (h2 s hs).2, by simp⟩) trivial (by simp)
theorem uni_length : (uni f a b).length ≤ a.length + b.length := by
  have h1 := res_length f (st false false (ends a) (ends b)) (-1) []
  have h2 := st_length false false (ends a) (ends b)
  rw [ends_length, ends_length] at h2
  simp at h1
  unfold uni
  omega
theorem uni_tot (hf : f false false = false) (ha : good (-1) a) (hb : good (-1) b) : tot (uni f a b) = mS f false 0 (st false false (ends a) (ends b)) := by
  obtain ⟨h1, h2, h3⟩ := uni_S hf ha hb
  unfold uni
  rw [res_tot f _ (-1) [] false 0 ⟨by simp, fun _ => rfl⟩ (fun s hs => (h2 s hs).1) h3]
  simp [tot]
end
def fOr (a b : Bool) : Bool := a || b
def fAnd (a b : Bool) : Bool := a && b
def fNot (a b : Bool) : Bool := a && !b
theorem uni_fst {a b : List Sp} (ha : good (-1) a) (hb : good (-1) b) : uni (fun x _ => x) a b = a :=
  good_one _ _ _ _ (uni_good rfl ha hb) ha fun t => by rw [uni_in rfl ha hb]
theorem uni_snd {a b : List Sp} (ha : good (-1) a) (hb : good (-1) b) : uni (fun _ y => y) a b = b :=
  good_one _ _ _ _ (uni_good rfl ha hb) hb fun t => by rw [uni_in rfl ha hb]
theorem tot_or {a b : List Sp} (ha : good (-1) a) (hb : good (-1) b) : tot (uni fOr a b) + tot (uni fAnd a b) = tot a + tot b := by
  have h1 := uni_tot (f := fOr) rfl ha hb
  have h2 := uni_tot (f := fAnd) rfl ha hb
  have h3 := uni_tot (f := fun x _ => x) rfl ha hb
  have h4 := uni_tot (f := fun _ y => y) rfl ha hb
  rw [uni_fst ha hb] at h3
  rw [uni_snd ha hb] at h4
  have := mS_or (st false false (ends a) (ends b)) false false 0
  rw [h1, h2, h3, h4]
  exact this
theorem tot_minus {a b : List Sp} (ha : good (-1) a) (hb : good (-1) b) : tot (uni fAnd a b) + tot (uni fNot a b) = tot a := by
  have h2 := uni_tot (f := fAnd) rfl ha hb
  have h1 := uni_tot (f := fNot) rfl ha hb
  have h3 := uni_tot (f := fun x _ => x) rfl ha hb
  rw [uni_fst ha hb] at h3
  have := mS_minus (st false false (ends a) (ends b)) false false 0
  rw [h1, h2, h3]
  exact this
/-- equal where the times are -/
theorem uni_eq {l : List Sp} {f : Bool → Bool → Bool} {a b : List Sp} (hf : f false false = false) (ha : good (-1) a) (hb : good (-1) b) (hl : good (-1) l) (h : ∀ t, inL l t = f (inL a t) (inL b t)) : l = uni f a b :=
  good_one _ _ _ _ hl (uni_good hf ha hb) fun t => by rw [uni_in hf ha hb, h]
/-! ### examining a list -/
def chkSGo (last : Int) : List Sp → Int
  | [] => 0
  | x :: r => if last < x.1 ∧ x.1 < x.2 ∧ x.2 ≤ 1099511627776 then chkSGo x.2 r else 130
def chkS (l : List Sp) : Int := if 4096 < l.length then 2 else chkSGo (-1) l
theorem chkSGo_good : ∀ (l : List Sp) (last : Int), chkSGo last l = 0 ↔ good last l
  | [], _ => by simp [chkSGo, good]
  | x :: r, last => by
    unfold chkSGo good
    by_cases h : last < x.1 ∧ x.1 < x.2 ∧ x.2 ≤ 1099511627776
    · rw [if_pos h, chkSGo_good r x.2]
      exact ⟨fun g => ⟨h.1, h.2.1, h.2.2, g⟩, fun g => g.2.2.2⟩
    · rw [if_neg h]
      exact ⟨fun g => absurd g (by decide), fun g => absurd ⟨g.1, g.2.1, g.2.2.1⟩ h⟩
theorem chkSGo_ways : ∀ (l : List Sp) (last : Int), chkSGo last l = 0 ∨ chkSGo last l = 130
  | [], _ => .inl rfl
  | x :: r, last => by unfold chkSGo; split; exact chkSGo_ways r x.2; exact .inr rfl
theorem chkS_good {l : List Sp} (h : chkS l = 0) : good (-1) l ∧ l.length ≤ 4096 := by
  unfold chkS at h
  split at h
  · cases h
  · exact ⟨(chkSGo_good l _).1 h, by omega⟩
theorem chkS_of {l : List Sp} (h : good (-1) l) (hl : l.length ≤ 4096) : chkS l = 0 := by
  unfold chkS; rw [if_neg (by omega)]; exact (chkSGo_good l _).2 h
end Go.Mine.S
