/-
  Layer 31 (provenance), plainly: increasing lists, relations, what they reach; the laws.
-/
namespace Go.Mine.P

abbrev L := List Int
def belowGo (m last : Int) : L → Bool
  | [] => true
  | x :: r => decide (last < x) && decide (x < m) && belowGo m x r
def below (l : L) (m : Int) : Bool := belowGo m (-1) l
theorem belowGo_iff (m : Int) : ∀ (l : L) (last : Int), belowGo m last l = true ↔ (∀ x ∈ l, last < x ∧ x < m) ∧ l.Pairwise (· < ·)
  | [], last => by simp [belowGo]
  | x :: r, last => by
    simp only [belowGo, Bool.and_eq_true, decide_eq_true_eq, belowGo_iff m r x, List.forall_mem_cons, List.pairwise_cons]
    constructor
    · rintro ⟨⟨h1, h2⟩, h3, h4⟩
      exact ⟨⟨⟨h1, h2⟩, fun y hy => ⟨by have := (h3 y hy).1; omega, (h3 y hy).2⟩⟩, fun y hy => (h3 y hy).1, h4⟩
    · rintro ⟨⟨⟨h1, h2⟩, h3⟩, h4, h5⟩
      exact ⟨⟨h1, h2⟩, fun y hy => ⟨h4 y hy, (h3 y hy).2⟩, h5⟩
theorem below_iff (l : L) (m : Int) : below l m = true ↔ (∀ x ∈ l, 0 ≤ x ∧ x < m) ∧ l.Pairwise (· < ·) := by
  unfold below
  rw [belowGo_iff]
  constructor
  · rintro ⟨h1, h2⟩; exact ⟨fun x hx => ⟨by have := (h1 x hx).1; omega, (h1 x hx).2⟩, h2⟩
  · rintro ⟨h1, h2⟩; exact ⟨fun x hx => ⟨by have := (h1 x hx).1; omega, (h1 x hx).2⟩, h2⟩
/-- one list for each set -/
theorem sorted_eq : ∀ {a b : L}, a.Pairwise (· < ·) → b.Pairwise (· < ·) → (∀ x, x ∈ a ↔ x ∈ b) → a = b
  | [], [], _, _, _ => rfl
  | [], y :: s, _, _, h => by have := (h y).2 (by simp); cases this
  | x :: r, [], _, _, h => by have := (h x).1 (by simp); cases this
  | x :: r, y :: s, ha, hb, h => by
    obtain ⟨a1, a2⟩ := List.pairwise_cons.1 ha
    obtain ⟨b1, b2⟩ := List.pairwise_cons.1 hb
    have e : x = y := by
      have h1 := (h x).1 (by simp)
      have h2 := (h y).2 (by simp)
      rcases List.mem_cons.1 h1 with h1 | h1
      · exact h1
      · rcases List.mem_cons.1 h2 with h2 | h2
        · exact h2.symm
        · have := b1 x h1; have := a1 y h2; omega
    subst e
    congr 1
    refine sorted_eq a2 b2 fun z => ?_
    constructor
    · intro hz
      rcases List.mem_cons.1 ((h z).1 (by simp [hz])) with rfl | h'
      · have := a1 z hz; omega
      · exact h'
    · intro hz
      rcases List.mem_cons.1 ((h z).2 (by simp [hz])) with rfl | h'
      · have := b1 z hz; omega
      · exact h'
def rng (n : Int) : L := (List.range n.toNat).map Int.ofNat
theorem mem_rng {n x : Int} : x ∈ rng n ↔ 0 ≤ x ∧ x < n := by
  simp only [rng, List.mem_map, List.mem_range]
  constructor
  · rintro ⟨a, h, rfl⟩; simp only [Int.ofNat_eq_natCast]; omega
  · rintro ⟨h1, h2⟩; exact ⟨x.toNat, by omega, by simp only [Int.ofNat_eq_natCast]; omega⟩
theorem rng_sorted (n : Int) : (rng n).Pairwise (· < ·) := by
  unfold rng
  rw [List.pairwise_map]
  refine List.pairwise_lt_range.imp fun {a b} h => ?_
  simp only [Int.ofNat_eq_natCast]; omega
theorem rng_length (n : Int) : (rng n).length = n.toNat := by simp [rng]
theorem filter_below {n : Int} (p : Int → Bool) : below ((rng n).filter p) n = true := by
  rw [below_iff]
  exact ⟨fun x hx => mem_rng.1 (List.mem_filter.1 hx).1, (rng_sorted n).filter p⟩

/-! ### relations -/
def chk (r : List L) (n : Int) : Int := if 4096 < r.length then 2 else if n < 0 ∨ 4096 < n then 310 else if r.all (fun l => below l n) then 0 else 310
theorem chk_zero {r : List L} {n : Int} : chk r n = 0 ↔ r.length ≤ 4096 ∧ 0 ≤ n ∧ n ≤ 4096 ∧ ∀ l ∈ r, below l n = true := by
  unfold chk
  split
  · constructor
    · intro h; omega
    · intro h; omega
  · split
    · constructor
      · intro h; omega
      · intro h; omega
    · split
      · rename_i h1 h2 h3
        rw [List.all_eq_true] at h3
        exact ⟨fun _ => ⟨by omega, by omega, by omega, h3⟩, fun _ => rfl⟩
      · rename_i h1 h2 h3
        constructor
        · intro h; omega
        · intro h; exact absurd (List.all_eq_true.2 h.2.2.2) h3
def row (r : List L) (i : Int) : L := r.getD i.toNat []
theorem row_mem {r : List L} {i : Int} (h0 : 0 ≤ i) (h : i < r.length) : row r i ∈ r := by
  unfold row
  rw [List.getD_eq_getElem?_getD, List.getElem?_eq_getElem (by omega)]
  simp
def inAll (r : List L) (l : L) (s : Int) : Bool := l.any fun i => (row r i).contains s
theorem inAll_iff {r : List L} {l : L} {s : Int} : inAll r l s = true ↔ ∃ i ∈ l, s ∈ row r i := by simp [inAll]
def allL (r : List L) (n : Int) (l : L) : L := (rng n).filter (inAll r l)
theorem mem_allL {r : List L} {n : Int} {l : L} {s : Int} : s ∈ allL r n l ↔ (0 ≤ s ∧ s < n) ∧ ∃ i ∈ l, s ∈ row r i := by
  rw [allL, List.mem_filter, mem_rng, inAll_iff]
theorem allL_below (r : List L) (n : Int) (l : L) : below (allL r n l) n = true := filter_below _
def thenE (r s : List L) (n : Int) : Int := if chk r n = 0 then chk s r.length else chk r n
def thenL (r s : List L) (n : Int) : List L := if thenE r s n = 0 then s.map (allL r n) else []
def argE (r : List L) (n m : Int) (l : L) : Int := if chk r n = 0 then if below l m = true then 0 else 1 else chk r n
def meets (src x : L) : Bool := x.any fun k => src.contains k
theorem meets_iff {src x : L} : meets src x = true ↔ ∃ k ∈ x, k ∈ src := by simp [meets]
def reachL (r : List L) (n : Int) (src : L) : L := if argE r n n src = 0 then (rng r.length).filter (fun i => meets src (row r i)) else []
def backL (r : List L) (n : Int) (res : L) : L := if argE r n r.length res = 0 then allL r n res else []
theorem argE_zero {r : List L} {n m : Int} {l : L} : argE r n m l = 0 ↔ chk r n = 0 ∧ below l m = true := by
  unfold argE
  split
  · split
    · simp_all
    · constructor
      · intro h; omega
      · intro h; simp_all
  · simp_all
theorem thenE_zero {r s : List L} {n : Int} : thenE r s n = 0 ↔ chk r n = 0 ∧ chk s r.length = 0 := by
  unfold thenE
  split
  · simp_all
  · simp_all
theorem thenL_ok {r s : List L} {n : Int} (h : thenE r s n = 0) : thenL r s n = s.map (allL r n) := by unfold thenL; rw [if_pos h]
theorem reachL_ok {r : List L} {n : Int} {src : L} (h : argE r n n src = 0) : reachL r n src = (rng r.length).filter (fun i => meets src (row r i)) := by unfold reachL; rw [if_pos h]
theorem backL_ok {r : List L} {n : Int} {res : L} (h : argE r n r.length res = 0) : backL r n res = allL r n res := by unfold backL; rw [if_pos h]
theorem thenL_bad {r s : List L} {n : Int} (h : thenE r s n ≠ 0) : thenL r s n = [] := by unfold thenL; rw [if_neg h]
theorem reachL_bad {r : List L} {n : Int} {src : L} (h : argE r n n src ≠ 0) : reachL r n src = [] := by unfold reachL; rw [if_neg h]
theorem backL_bad {r : List L} {n : Int} {res : L} (h : argE r n r.length res ≠ 0) : backL r n res = [] := by unfold backL; rw [if_neg h]
theorem mem_reachL {r : List L} {n : Int} {src : L} (h : argE r n n src = 0) {i : Int} : i ∈ reachL r n src ↔ (0 ≤ i ∧ i < r.length) ∧ ∃ k ∈ row r i, k ∈ src := by
  rw [reachL_ok h, List.mem_filter, mem_rng, meets_iff]
theorem reachL_below {r : List L} {n : Int} {src : L} : below (reachL r n src) r.length = true := by
  by_cases h : argE r n n src = 0
  · rw [reachL_ok h]; exact filter_below _
  · rw [reachL_bad h]; rfl
theorem row_map {f : L → L} {s : List L} {i : Int} (h0 : 0 ≤ i) (h : i < s.length) : row (s.map f) i = f (row s i) := by
  unfold row
  rw [List.getD_eq_getElem?_getD, List.getD_eq_getElem?_getD, List.getElem?_map, List.getElem?_eq_getElem (by omega)]
  rfl
theorem thenL_chk {r s : List L} {n : Int} (h : thenE r s n = 0) : chk (thenL r s n) n = 0 ∧ (thenL r s n).length = s.length := by
  obtain ⟨h1, h2⟩ := thenE_zero.1 h
  rw [thenL_ok h]
  refine ⟨chk_zero.2 ⟨by simp; exact (chk_zero.1 h2).1, (chk_zero.1 h1).2.1, (chk_zero.1 h1).2.2.1, fun l hl => ?_⟩, by simp⟩
  obtain ⟨x, _, rfl⟩ := List.mem_map.1 hl
  exact allL_below _ _ _
/-! ### the laws -/
theorem steps_reach {r s : List L} {n : Int} {src : L} (h : thenE r s n = 0) (ha : argE r n n src = 0) :
    argE (thenL r s n) n n src = 0 ∧ argE s r.length r.length (reachL r n src) = 0 ∧ reachL (thenL r s n) n src = reachL s r.length (reachL r n src) := by
  obtain ⟨h1, h2⟩ := thenE_zero.1 h
  obtain ⟨c1, c2⟩ := thenL_chk h
  have a1 : argE (thenL r s n) n n src = 0 := argE_zero.2 ⟨c1, (argE_zero.1 ha).2⟩
  have a2 : argE s r.length r.length (reachL r n src) = 0 := argE_zero.2 ⟨h2, reachL_below⟩
  refine ⟨a1, a2, sorted_eq ((below_iff _ _).1 reachL_below).2 ((below_iff _ _).1 reachL_below).2 fun i => ?_⟩
  rw [mem_reachL a1, mem_reachL a2, c2]
  refine and_congr_right fun hi => ?_
  rw [thenL_ok h, row_map hi.1 hi.2]
  have hb := (below_iff _ _).1 ((chk_zero.1 h2).2.2.2 _ (row_mem hi.1 hi.2))
  constructor
  · rintro ⟨k, hk, hs⟩
    obtain ⟨_, j, hj, hkj⟩ := mem_allL.1 hk
    exact ⟨j, hj, (mem_reachL ha).2 ⟨hb.1 j hj, k, hkj, hs⟩⟩
  · rintro ⟨j, hj, hjr⟩
    obtain ⟨hj2, k, hk, hs⟩ := (mem_reachL ha).1 hjr
    have hkn := ((below_iff _ _).1 ((chk_zero.1 h1).2.2.2 _ (row_mem hj2.1 hj2.2))).1 k hk
    exact ⟨k, mem_allL.2 ⟨hkn, j, hj, hk⟩, hs⟩
theorem steps_back {r s : List L} {n : Int} {res : L} (h : thenE r s n = 0) :
    argE (thenL r s n) n (thenL r s n).length res = argE s r.length s.length res ∧ (argE s r.length s.length res = 0 → argE r n r.length (backL s r.length res) = 0 ∧ backL (thenL r s n) n res = backL r n (backL s r.length res)) := by
  obtain ⟨h1, h2⟩ := thenE_zero.1 h
  obtain ⟨c1, c2⟩ := thenL_chk h
  have e : argE (thenL r s n) n (thenL r s n).length res = argE s r.length s.length res := by
    unfold argE; rw [if_pos c1, if_pos h2, c2]
  refine ⟨e, fun ha => ?_⟩
  have hb : backL s r.length res = allL s r.length res := backL_ok ha
  have a2 : argE r n r.length (backL s r.length res) = 0 := argE_zero.2 ⟨h1, by rw [hb]; exact allL_below _ _ _⟩
  refine ⟨a2, ?_⟩
  rw [backL_ok (e.trans ha), backL_ok a2, hb]
  refine sorted_eq ((below_iff _ _).1 (allL_below _ _ _)).2 ((below_iff _ _).1 (allL_below _ _ _)).2 fun v => ?_
  rw [mem_allL, mem_allL]
  refine and_congr_right fun hv => ?_
  have hr := ((below_iff _ _).1 (argE_zero.1 ha).2).1
  constructor
  · rintro ⟨t, ht, hvt⟩
    rw [thenL_ok h, row_map (hr t ht).1 (hr t ht).2] at hvt
    obtain ⟨_, j, hj, hvj⟩ := mem_allL.1 hvt
    exact ⟨j, mem_allL.2 ⟨((below_iff _ _).1 ((chk_zero.1 h2).2.2.2 _ (row_mem (hr t ht).1 (hr t ht).2))).1 j hj, t, ht, hj⟩, hvj⟩
  · rintro ⟨j, hj, hvj⟩
    obtain ⟨_, t, ht, hjt⟩ := mem_allL.1 hj
    exact ⟨t, ht, by rw [thenL_ok h, row_map (hr t ht).1 (hr t ht).2]; exact mem_allL.2 ⟨hv, j, hjt, hvj⟩⟩
/-- there and back -/
theorem there_back {r : List L} {n : Int} {res : L} {s : Int} (h : argE r n r.length res = 0) (h0 : 0 ≤ s) (hn : s < n) :
    argE r n n [s] = 0 ∧ (reachL r n [s]).any (fun i => res.contains i) = (backL r n res).contains s := by
  obtain ⟨h1, h2⟩ := argE_zero.1 h
  have a1 : argE r n n [s] = 0 := argE_zero.2 ⟨h1, (below_iff _ _).2 ⟨by simp; omega, by simp⟩⟩
  refine ⟨a1, ?_⟩
  have hr := ((below_iff _ _).1 h2).1
  rw [Bool.eq_iff_iff]
  simp only [List.any_eq_true, List.contains_iff_mem]
  rw [backL_ok h, mem_allL]
  constructor
  · rintro ⟨i, hi, hir⟩
    obtain ⟨_, k, hk, hs⟩ := (mem_reachL a1).1 hi
    obtain rfl : k = s := by simpa using hs
    exact ⟨⟨h0, hn⟩, i, hir, hk⟩
  · rintro ⟨_, i, hir, hs⟩
    exact ⟨i, (mem_reachL a1).2 ⟨hr i hir, s, hs, by simp⟩, hir⟩
/-! ### three relations -/
def own (n : Int) : List L := (rng n).map fun i => [i]
theorem row_own {n i : Int} (h0 : 0 ≤ i) (h : i < n) : row (own n) i = [i] := by
  have hi : (rng n)[i.toNat]? = some i := by
    unfold rng
    rw [List.getElem?_map, List.getElem?_range (by omega)]
    simp; omega
  unfold row own
  rw [List.getD_eq_getElem?_getD, List.getElem?_map, hi]
  rfl
theorem own_length (n : Int) : (own n).length = n.toNat := by simp [own, rng_length]
theorem own_below {n : Int} : ∀ l ∈ own n, below l n = true := by
  intro l hl
  obtain ⟨i, hi, rfl⟩ := List.mem_map.1 hl
  have := mem_rng.1 hi
  exact (below_iff _ _).2 ⟨by simp; omega, by simp⟩
theorem map_id_of {f : L → L} {s : List L} (h : ∀ x ∈ s, f x = x) : s.map f = s := by
  conv => rhs; rw [← List.map_id s]
  exact List.map_congr_left h
theorem three_ok {r s t : List L} {n : Int} (h : thenE r s n = 0) (h2 : thenE s t r.length = 0) :
    thenE (thenL r s n) t n = 0 ∧ thenE r (thenL s t r.length) n = 0 ∧ thenL (thenL r s n) t n = thenL r (thenL s t r.length) n := by
  obtain ⟨a1, a2⟩ := thenE_zero.1 h
  obtain ⟨b1, b2⟩ := thenE_zero.1 h2
  obtain ⟨c1, c2⟩ := thenL_chk h
  obtain ⟨d1, d2⟩ := thenL_chk h2
  have e1 : thenE (thenL r s n) t n = 0 := thenE_zero.2 ⟨c1, by rw [c2]; exact b2⟩
  have e2 : thenE r (thenL s t r.length) n = 0 := thenE_zero.2 ⟨a1, d1⟩
  refine ⟨e1, e2, ?_⟩
  rw [thenL_ok e1, thenL_ok e2, thenL_ok h2, List.map_map]
  refine List.map_congr_left fun x hx => ?_
  have hxb := ((below_iff _ _).1 ((chk_zero.1 b2).2.2.2 x hx)).1
  show allL (thenL r s n) n x = allL r n (allL s r.length x)
  refine sorted_eq ((below_iff _ _).1 (allL_below _ _ _)).2 ((below_iff _ _).1 (allL_below _ _ _)).2 fun v => ?_
  rw [mem_allL, mem_allL]
  refine and_congr_right fun hv => ?_
  constructor
  · rintro ⟨i, hi, hvi⟩
    rw [thenL_ok h, row_map (hxb i hi).1 (hxb i hi).2] at hvi
    obtain ⟨_, j, hj, hvj⟩ := mem_allL.1 hvi
    exact ⟨j, mem_allL.2 ⟨((below_iff _ _).1 ((chk_zero.1 a2).2.2.2 _ (row_mem (hxb i hi).1 (hxb i hi).2))).1 j hj, i, hi, hj⟩, hvj⟩
  · rintro ⟨j, hj, hvj⟩
    obtain ⟨_, i, hi, hji⟩ := mem_allL.1 hj
    exact ⟨i, hi, by rw [thenL_ok h, row_map (hxb i hi).1 (hxb i hi).2]; exact mem_allL.2 ⟨hv, j, hji, hvj⟩⟩
theorem own_first {r : List L} {n : Int} (h : chk r n = 0) : thenE (own n) r n = 0 ∧ thenL (own n) r n = r := by
  obtain ⟨h1, h2, h3, h4⟩ := chk_zero.1 h
  have e : thenE (own n) r n = 0 := thenE_zero.2 ⟨chk_zero.2 ⟨by rw [own_length]; omega, h2, h3, own_below⟩, by rw [own_length]; rw [show ((n.toNat : Nat) : Int) = n by omega]; exact h⟩
  refine ⟨e, ?_⟩
  rw [thenL_ok e]
  refine map_id_of fun x hx => ?_
  obtain ⟨b1, b2⟩ := (below_iff _ _).1 (h4 x hx)
  refine sorted_eq ((below_iff _ _).1 (allL_below _ _ _)).2 b2 fun v => ?_
  rw [mem_allL]
  constructor
  · rintro ⟨hv, i, hi, hvi⟩
    rw [row_own (b1 i hi).1 (b1 i hi).2] at hvi
    obtain rfl : v = i := by simpa using hvi
    exact hi
  · intro hv
    exact ⟨b1 v hv, v, hv, by rw [row_own (b1 v hv).1 (b1 v hv).2]; simp⟩
theorem own_last {r : List L} {n : Int} (h : chk r n = 0) : thenE r (own r.length) n = 0 ∧ thenL r (own r.length) n = r := by
  obtain ⟨h1, h2, h3, h4⟩ := chk_zero.1 h
  have e : thenE r (own r.length) n = 0 := thenE_zero.2 ⟨h, chk_zero.2 ⟨by rw [own_length]; omega, by omega, by omega, own_below⟩⟩
  refine ⟨e, ?_⟩
  rw [thenL_ok e]
  unfold own
  rw [List.map_map]
  refine List.ext_getElem (by simp [rng_length]) fun k hk hk2 => ?_
  have hk3 : k < r.length := hk2
  rw [List.getElem_map]
  have hrk : (rng (r.length : Int))[k]'(by simpa [rng_length] using hk3) = (k : Int) := by simp [rng]
  rw [hrk]
  show allL r n [(k : Int)] = r[k]
  have hrow : row r (k : Int) = r[k] := by
    unfold row
    rw [List.getD_eq_getElem?_getD, Int.toNat_natCast, List.getElem?_eq_getElem hk3]; rfl
  obtain ⟨b1, b2⟩ := (below_iff _ _).1 (h4 _ (List.getElem_mem hk3))
  refine sorted_eq ((below_iff _ _).1 (allL_below _ _ _)).2 b2 fun v => ?_
  rw [mem_allL]
  constructor
  · rintro ⟨_, i, hi, hv⟩
    obtain rfl : i = (k : Int) := by simpa using hi
    rwa [hrow] at hv
  · intro hv
    exact ⟨b1 v hv, (k : Int), by simp, by rwa [hrow]⟩
/-! ### more sources -/
theorem one_of {r : List L} {n : Int} {src : L} (h : argE r n n src = 0) {k : Int} (hk : k ∈ src) : argE r n n [k] = 0 := by
  obtain ⟨h1, h2⟩ := argE_zero.1 h
  have := ((below_iff _ _).1 h2).1 k hk
  exact argE_zero.2 ⟨h1, (below_iff _ _).2 ⟨by simp; omega, by simp⟩⟩
theorem fewer_of {r : List L} {n : Int} {src : L} (h : argE r n n src = 0) {l : L} (hl : l.Sublist src) : argE r n n l = 0 ∧ ∀ i ∈ reachL r n l, i ∈ reachL r n src := by
  obtain ⟨h1, h2⟩ := argE_zero.1 h
  obtain ⟨b1, b2⟩ := (below_iff _ _).1 h2
  have e : argE r n n l = 0 := argE_zero.2 ⟨h1, (below_iff _ _).2 ⟨fun x hx => b1 x (hl.subset hx), b2.sublist hl⟩⟩
  refine ⟨e, fun i hi => ?_⟩
  obtain ⟨hi2, k, hk, hs⟩ := (mem_reachL e).1 hi
  exact (mem_reachL h).2 ⟨hi2, k, hk, hl.subset hs⟩
/-- what each reaches, together -/
theorem together {r : List L} {n : Int} {src : L} (h : argE r n n src = 0) (i : Int) :
    (src.any fun k => (reachL r n [k]).contains i) = (reachL r n src).contains i := by
  rw [Bool.eq_iff_iff]
  simp only [List.any_eq_true, List.contains_iff_mem]
  constructor
  · rintro ⟨k, hk, hik⟩
    obtain ⟨hi2, j, hj, hs⟩ := (mem_reachL (one_of h hk)).1 hik
    obtain rfl : j = k := by simpa using hs
    exact (mem_reachL h).2 ⟨hi2, j, hj, hk⟩
  · intro hm
    obtain ⟨hi2, k, hk, hs⟩ := (mem_reachL h).1 hm
    exact ⟨k, hs, (mem_reachL (one_of h hs)).2 ⟨hi2, k, hk, by simp⟩⟩
theorem reach_filter {r : List L} {n : Int} {src : L} (h : argE r n n src = 0) : (rng r.length).filter (fun i => src.any fun k => (reachL r n [k]).contains i) = reachL r n src := by
  rw [reachL_ok h]
  refine List.filter_congr fun i hi => ?_

  rw [together h i, reachL_ok h, Bool.eq_iff_iff]
  simp only [List.contains_iff_mem, List.mem_filter, hi, true_and]
theorem belowGo_length (m : Int) : ∀ (l : L) (last : Int), belowGo m last l = true → l = [] ∨ (l.length : Int) ≤ m - 1 - last
  | [], _, _ => .inl rfl
  | x :: r, last, h => by
    simp only [belowGo, Bool.and_eq_true, decide_eq_true_eq] at h
    obtain ⟨⟨h1, h2⟩, h3⟩ := h
    refine .inr ?_
    rcases belowGo_length m r x h3 with rfl | h4
    · simp; omega
    · simp only [List.length_cons]; omega
theorem below_length {l : L} {m : Int} (h : below l m = true) : l = [] ∨ (l.length : Int) ≤ m := by
  rcases belowGo_length m l (-1) h with h | h
  · exact .inl h
  · exact .inr (by omega)
theorem below_le {l : L} {m : Int} (h : below l m = true) (hm : m ≤ 4096) : l.length ≤ 4096 := by
  rcases below_length h with rfl | h
  · simp
  · omega
theorem rng_succ (k : Nat) : rng ((k : Int) + 1) = rng k ++ [(k : Int)] := by
  unfold rng
  rw [show ((k : Int) + 1).toNat = k + 1 by omega, Int.toNat_natCast, List.range_succ, List.map_append]
  rfl
end Go.Mine.P
