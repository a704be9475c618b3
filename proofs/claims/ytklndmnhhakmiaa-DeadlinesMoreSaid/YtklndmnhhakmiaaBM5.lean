/-
  budgets: paths, in the program and in the reference.
  budgets: the reference performs a trade.
  budgets: the reference's Standing.
-/
import Derived.Test.YtklndmnhhakmiaaBM4
namespace Go.Proofs.Ytklndmnhhakmiaa
open Go.RowKit Go.Mine Go.Mine.B
attribute [local go_sem] Oper.semAt_some
def pathR (x : Bu) (s : Int) : Int × Int := if rightB x = true then (if inR s 0 3 = true then (path x.q s, 0) else (0, 1)) else (0, 400)
/-- of the first k stages -/
def psum (q : Q) (k : Nat) : Int := if k = 0 then 0 else path q ((k : Int) - 1)
theorem psum_next (q : Q) {k : Nat} (hk : k < 4) : psum q (k + 1) = psum q k + qg q (k : Int) := by
  have h : k = 0 ∨ k = 1 ∨ k = 2 ∨ k = 3 := by omega
  rcases h with rfl | rfl | rfl | rfl <;> simp [psum, path, qg]
theorem psum_ok {q : Q} (h : okQ q) (k : Nat) : 0 ≤ psum q k ∧ psum q k ≤ 4294967296 := by
  unfold psum
  split
  · omega
  · exact path_ok h _
theorem buC_get (x : Bu) (k : Nat) (hk : k < 4) : (buC x).toArray[1 + k]? = some (.int .i64 (qg x.q (k : Int))) := by
  have h : k = 0 ∨ k = 1 ∨ k = 2 ∨ k = 3 := by omega
  rcases h with rfl | rfl | rfl | rfl <;> rfl
set_option maxHeartbeats 2000000 in
theorem path16 (x : Bu) (s : Int) (w : World) : Calls Try.prog 16 #[buV x, .int .i64 s] w fun e w' => e = .returned (.tuple #[.int .i64 (pathR x s).1, .int .i64 (pathR x s).2]) ∧ Below w.heap.size w w' := by
  have K := hide (right33 x (w.alloc (.cells (buC x).toArray 26)))
  have KW := hide (fun w => within34 s 0 3 w)
  have HE := hide (show pathR x s = if rightB x = true then (if inR s 0 3 = true then (path x.q s, 0) else (0, 1)) else (0, 400) from rfl)
  have HR := hide (fun h : rightB x = true => (rightB_ok h).1)
  have XB := Blk.new w (buC x).toArray 26
  generalize hR : pathR x s = R at HE ⊢
  clear hR
  generalize rightB x = r at *
  have hst : inR s 0 3 = true → ∃ n : Nat, s = (n : Int) ∧ n < 4 := fun h => by obtain ⟨h1, h2⟩ := inR_iff.1 h; exact ⟨s.toNat, by omega, by omega⟩
  generalize inR s 0 3 = t at *
  have HB0 := hide (kalloc (Below.refl w.heap.size w) (.cells (buC x).toArray 26))
  cases r
  · have HE := hide (show R = (0, 400) from HE.out)
    simp only [buV, buC] at *
    clear XB hst
    go_enter Try.func16, Try.ntmps16
    go_wp2_with fail
    refine K.out.mono ?_
    rintro e w1 ⟨rfl, hb⟩
    have HB := hide (kcall HB0.out hb)
    clear hb
    go_wp2
    exact bodyPost_ret (v := .tuple #[.int .i64 0, .int .i64 400]) (by simp [results, Try.results16, go_sem]) rfl ⟨by first | (rw [HE.out]; done) | (rw [HE.out]; simp), HB.out⟩
  · cases t
    · have HE := hide (show R = (0, 1) from HE.out)
      simp only [buV, buC] at *
      clear XB hst
      go_enter Try.func16, Try.ntmps16
      go_wp2_with fail
      refine K.out.mono ?_
      rintro e w1 ⟨rfl, hb⟩
      have HB := hide (kcall HB0.out hb)
      clear hb
      go_wp2_with (go_at_call 34; refine (KW.out _).mono ?_; rintro e w' ⟨rfl, rfl⟩)
      exact bodyPost_ret (v := .tuple #[.int .i64 0, .int .i64 1]) (by simp [results, Try.results16, go_sem]) rfl ⟨by first | (rw [HE.out]; done) | (rw [HE.out]; simp), HB.out⟩
    · obtain ⟨n, rfl, hn⟩ := hst rfl
      have HE := hide (show R = (path x.q (n : Int), 0) from HE.out)
      have HQ := hide (psum_ok (HR.out rfl))
      have HP := hide (show path x.q (n : Int) = psum x.q (n + 1) by unfold psum; rw [if_neg (by omega), show ((n + 1 : Nat) : Int) - 1 = (n : Int) by omega])
      have HC := hide (fun k hk => buC_get x k hk)
      have HN := hide (fun k (hk : k < 4) => psum_next x.q hk)
      simp only [buV, buC] at *
      go_enter Try.func16, Try.ntmps16
      go_wp2_with fail
      generalize hw0 : w.alloc (.cells #[.int .i64 x.lang, .int .i64 x.q.1, .int .i64 x.q.2.1, .int .i64 x.q.2.2.1, .int .i64 x.q.2.2.2] 26) = w0 at *
      refine K.out.mono ?_
      rintro e w1 ⟨rfl, hb⟩
      have HB := hide (kcall HB0.out hb)
      have X1 := hide (XB.bel hb)
      clear hb hw0 XB K HB0
      have n1 : (n : Int) + 1 ≤ 4 := by omega
      have n0 : (0 : Int) ≤ (n : Int) + 1 := by omega
      have nw : IntKind.i64.wrap ((n : Int) + 1) = (n : Int) + 1 := by rw [IntKind.wrap_i64]; omega
      have nt : ((n : Int) + 1).toNat = n + 1 := by omega
      have hxl := X1.out.lt
      go_wp2_with (go_at_call 34; refine (KW.out _).mono ?_; rintro e w' ⟨rfl, rfl⟩)
      go_loop [4, 7, 19] (fun v _ i => ∃ k : Nat, k ≤ n + 1 ∧ i = .int .i64 k ∧ v = .int .i64 (psum x.q k)) (fun _ _ i => n + 1 - (nI i).toNat)
      case atStart => exact ⟨0, Nat.zero_le _, rfl, rfl⟩
      case round =>
        obtain ⟨k, hk, rfl, rfl⟩ := hrel
        by_cases hlt : k < n + 1
        · have c1 := X1.out.cell (1 + k) (HC.out k (by omega))
          have hk4 : k < 4 := by omega
          have HN2 := hide (HN.out k hk4)
          have b1 := HQ.out k
          have b2 := HQ.out (k + 1)
          rw [HN2.out] at b2
          generalize hps : psum x.q k = v at *
          generalize hqg : qg x.q (k : Int) = u at *
          have hw2 : IntKind.i64.wrap (v + u) = v + u := by rw [IntKind.wrap_i64]; omega
          have hltz : (k : Int) < (n : Int) + 1 := by omega
          have HV := hide (And.intro hps hqg)
          have hb12 := hide (And.intro b1 b2)
          clear b1 b2 hps hqg
          go_wp2
          go_round
          case rel => exact ⟨k + 1, by omega, by go_num, by rw [HN2.out]⟩
          case measure => simp [nI]; omega
        · obtain rfl : k = n + 1 := by omega
          have hltz : ¬ ((n + 1 : Nat) : Int) < (n : Int) + 1 := by omega
          have HE := hide (HE.out.trans (by rw [HP.out]))
          generalize psum x.q (n + 1) = v at *
          go_wp2
          exact bodyPost_ret (v := .tuple #[.int .i64 v, .int .i64 0]) (by simp [results, Try.results16, go_sem]) rfl ⟨by first | (rw [HE.out]; done) | (rw [HE.out]; simp), HB.out⟩
set_option maxHeartbeats 2000000 in
theorem path17 (x : Bu) (s : Int) (w : World) : Calls Try.prog 17 #[buV x, .int .i64 s] w fun e w' => e = .returned (.tuple #[.int .i64 (pathR x s).1, .int .i64 (pathR x s).2]) ∧ Below w.heap.size w w' := by
  have K := hide (right35 x (w.alloc (.cells (buC x).toArray 26)))
  have KW := hide (fun w => within36 s 3 w)
  have HE := hide (show pathR x s = if rightB x = true then (if inR s 0 3 = true then (path x.q s, 0) else (0, 1)) else (0, 400) from rfl)
  have HR := hide (fun h : rightB x = true => (rightB_ok h).1)
  have XB := Blk.new w (buC x).toArray 26
  generalize hR : pathR x s = R at HE ⊢
  clear hR
  generalize rightB x = r at *
  have hst : inR s 0 3 = true → ∃ n : Nat, s = (n : Int) ∧ n < 4 := fun h => by obtain ⟨h1, h2⟩ := inR_iff.1 h; exact ⟨s.toNat, by omega, by omega⟩
  generalize inR s 0 3 = t at *
  have HB0 := hide (kalloc (Below.refl w.heap.size w) (.cells (buC x).toArray 26))
  cases r
  · have HE := hide (show R = (0, 400) from HE.out)
    simp only [buV, buC] at *
    clear XB hst
    go_enter Try.func17, Try.ntmps17
    go_wp2_with fail
    refine K.out.mono ?_
    rintro e w1 ⟨rfl, hb⟩
    have HB := hide (kcall HB0.out hb)
    clear hb
    go_wp2
    exact bodyPost_ret (v := .tuple #[.int .i64 0, .int .i64 400]) (by simp [results, Try.results17, go_sem]) rfl ⟨by first | (rw [HE.out]; done) | (rw [HE.out]; simp), HB.out⟩
  · cases t
    · have HE := hide (show R = (0, 1) from HE.out)
      simp only [buV, buC] at *
      clear XB hst
      go_enter Try.func17, Try.ntmps17
      go_wp2_with fail
      refine K.out.mono ?_
      rintro e w1 ⟨rfl, hb⟩
      have HB := hide (kcall HB0.out hb)
      clear hb
      go_wp2_with (go_at_call 36; refine (KW.out _).mono ?_; rintro e w' ⟨rfl, rfl⟩)
      exact bodyPost_ret (v := .tuple #[.int .i64 0, .int .i64 1]) (by simp [results, Try.results17, go_sem]) rfl ⟨by first | (rw [HE.out]; done) | (rw [HE.out]; simp), HB.out⟩
    · obtain ⟨n, rfl, hn⟩ := hst rfl
      have HE := hide (show R = (path x.q (n : Int), 0) from HE.out)
      have HQ := hide (psum_ok (HR.out rfl))
      have HP := hide (show path x.q (n : Int) = psum x.q (n + 1) by unfold psum; rw [if_neg (by omega), show ((n + 1 : Nat) : Int) - 1 = (n : Int) by omega])
      have HC := hide (fun k hk => buC_get x k hk)
      have HN := hide (fun k (hk : k < 4) => psum_next x.q hk)
      simp only [buV, buC] at *
      go_enter Try.func17, Try.ntmps17
      go_wp2_with fail
      generalize hw0 : w.alloc (.cells #[.int .i64 x.lang, .int .i64 x.q.1, .int .i64 x.q.2.1, .int .i64 x.q.2.2.1, .int .i64 x.q.2.2.2] 26) = w0 at *
      refine K.out.mono ?_
      rintro e w1 ⟨rfl, hb⟩
      have HB := hide (kcall HB0.out hb)
      have X1 := hide (XB.bel hb)
      clear hb hw0 XB K HB0
      have hxl := X1.out.lt
      go_wp2_with (go_at_call 36; refine (KW.out _).mono ?_; rintro e w' ⟨rfl, rfl⟩)
      go_loop [6, 7] (fun v i => ∃ k : Nat, k ≤ n + 1 ∧ i = .int .i64 k ∧ v = .int .i64 (psum x.q k)) (fun _ i => n + 1 - (nI i).toNat)
      case atStart => exact ⟨0, Nat.zero_le _, rfl, rfl⟩
      case round =>
        obtain ⟨k, hk, rfl, rfl⟩ := hrel
        by_cases hlt : k < n + 1
        · have c1 := X1.out.cell (1 + k) (HC.out k (by omega))
          have hk4 : k < 4 := by omega
          have hk4z : (k : Int) < 4 := by omega
          have HN2 := hide (HN.out k hk4)
          have b1 := HQ.out k
          have b2 := HQ.out (k + 1)
          rw [HN2.out] at b2
          generalize hps : psum x.q k = v at *
          generalize hqg : qg x.q (k : Int) = u at *
          have hw2 : IntKind.i64.wrap (v + u) = v + u := by rw [IntKind.wrap_i64]; omega
          have hltz : (k : Int) ≤ (n : Int) := by omega
          have HV := hide (And.intro hps hqg)
          have hb12 := hide (And.intro b1 b2)
          clear b1 b2 hps hqg
          go_wp2
          go_round
          case rel => exact ⟨k + 1, by omega, by go_num, by rw [HN2.out]⟩
          case measure => simp [nI]; omega
        · obtain rfl : k = n + 1 := by omega
          have hltz : ¬ ((n + 1 : Nat) : Int) ≤ (n : Int) := by omega
          have HE := hide (HE.out.trans (by rw [HP.out]))
          generalize psum x.q (n + 1) = v at *
          go_wp2
          exact bodyPost_ret (v := .tuple #[.int .i64 v, .int .i64 0]) (by simp [results, Try.results17, go_sem]) rfl ⟨by first | (rw [HE.out]; done) | (rw [HE.out]; simp), HB.out⟩
end Go.Proofs.Ytklndmnhhakmiaa
namespace Go.Proofs.Ytklndmnhhakmiaa
open Go.RowKit Go.Mine Go.Mine.B Go.Sort Go.Shelf
attribute [local go_sem] Oper.semAt_some
theorem flat_set {α : Type} {f : α → List Value} {sz : Nat} : ∀ {l : List α} {k j : Nat} {y y' : α} {u : Value}, (∀ x ∈ l, (f x).length = sz) → l[k]? = some y → j < sz → f y' = (f y).set j u → (l.set k y').flatMap f = (l.flatMap f).set (k * sz + j) u
  | [], k, j, y, y', u, _, hk, _, _ => by simp at hk
  | z :: l, 0, j, y, y', u, hs, hk, hj, hf => by
    simp at hk; subst hk
    have hz := hs z (by simp)
    simp only [List.set_cons_zero, List.flatMap_cons]
    rw [Nat.zero_mul, Nat.zero_add, List.set_append_left _ _ (by omega), hf]
  | z :: l, k + 1, j, y, y', u, hs, hk, hj, hf => by
    have hz := hs z (by simp)
    simp only [List.set_cons_succ, List.flatMap_cons]
    rw [flat_set (fun x hx => hs x (by simp [hx])) (by simpa using hk) hj hf, List.set_append_right _ _ (by rw [hz, Nat.succ_mul]; omega), hz]
    congr 2
    rw [Nat.succ_mul]; omega
/-- an element of an own row: its cells; what stands when one of them is turned -/
theorem own_at {α : Type} {f : α → List Value} {sz : Nat} {e : TypeId} {w : World} {base : Nat} {v : Value} {l : List α} (h : OwnL f sz e w base v l) {k : Nat} {y : α} (hk : l[k]? = some y) :
    ∃ g cap, v = .slice (some ⟨g, 0, none⟩) l.length cap ∧ base ≤ g ∧ g < w.heap.size ∧ l.length ≤ cap ∧ cap ≤ 9223372036854775807 ∧ (∀ j, w.frozen? ⟨g, j, none⟩ = false) ∧ (∀ j u, (f y)[j]? = some u → w.cell? ⟨g, k * sz + j, none⟩ = some u) ∧
      ∀ (j : Nat) (u : Value) (y' : α) (w' : World), w'.heap[g]? = (w.setCell ⟨g, k * sz + j, none⟩ u).heap[g]? → j < sz → f y' = (f y).set j u → OwnL f sz e w' base v (l.set k y') := by
  have hkl : k < l.length := (List.getElem?_eq_some_iff.1 hk).1
  obtain ⟨⟨hl, h1⟩, hs⟩ := h
  rcases h1 with ⟨rfl, hn⟩ | ⟨g, cap, cur, rfl, hg, hh, hn, hc, hz, ht⟩
  · omega
  · have hsy := hs y (List.mem_of_getElem? hk)
    refine ⟨g, cap, rfl, hg, (Array.getElem?_eq_some_iff.1 hh).1, hn, by simpa [maxLen] using hc, fun j => by simp [World.frozen?, hh], fun j u hu => ?_, fun j u y' w' hw' hj hf => ?_⟩
    · have hju : j < sz := by rw [← hsy]; exact (List.getElem?_eq_some_iff.1 hu).1
      have hfg := flat_get f sz l k j y u hs hk hu
      have hlt : k * sz + j < l.length * sz := by have := Nat.mul_le_mul_right sz (show k + 1 ≤ l.length from hkl); rw [Nat.succ_mul] at this; omega
      rw [← ht, List.getElem?_take_of_lt hlt] at hfg
      simp only [World.cell?, hh]
      simpa using hfg
    · rw [heap_set_at hh] at hw'
      have hfl : ((l.set k y').flatMap f).length = l.length * sz := by rw [flat_set hs hk hj hf]; simpa using hl
      refine ⟨⟨by rw [hfl]; simp, .inr ⟨g, cap, _, by simp, hg, hw', by simpa using hn, hc, by simpa using hz, ?_⟩⟩, ?_⟩
      · rw [flat_set hs hk hj hf, ← ht, Array.toList_setIfInBounds, List.length_set, List.take_set]
      · intro x hx
        rcases List.mem_or_eq_of_mem_set hx with hx | rfl
        · exact hs x hx
        · rw [hf]; simp [hsy]
/-- the place of a language -/
theorem ixGo_at {α : Type} {p : α → Bool} : ∀ {l : List α} {n : Nat}, l.any p = true → ∃ (k : Nat) (y : α), ixGo p l n = ((n + k : Nat) : Int) ∧ l[k]? = some y ∧ p y = true
  | [], n, h => by simp at h
  | x :: l, n, h => by
    by_cases hx : p x = true
    · exact ⟨0, x, by simp [ixGo, hx], rfl, hx⟩
    · have h2 : l.any p = true := by simpa [List.any_cons, hx] using h
      obtain ⟨k, y, a, b, c⟩ := ixGo_at (n := n + 1) h2
      refine ⟨k + 1, y, ?_, by simpa using b, c⟩
      rw [show ixGo p (x :: l) n = ixGo p l (n + 1) from if_neg hx, a]; congr 1; omega
/-- set where a language is -/
theorem map_set {b : List Bu} (h : b.Pairwise fun x y => x.lang < y.lang) (g : Bu → Bu) {k : Nat} {y : Bu} (hk : b[k]? = some y) (z : Bu) : (b.map g).set k z = b.map fun x => if x.lang = y.lang then z else g x := by
  apply List.ext_getElem?
  intro i
  rw [List.getElem?_set, List.getElem?_map, List.getElem?_map]
  have hkl : k < b.length := (List.getElem?_eq_some_iff.1 hk).1
  by_cases hi : k = i
  · subst hi
    rw [if_pos rfl, if_pos (by simpa using hkl), hk]
    simp
  · rw [if_neg hi]
    rcases hb : b[i]? with _ | x
    · rfl
    · have hne : x.lang ≠ y.lang := by
        obtain ⟨hil, rfl⟩ := List.getElem?_eq_some_iff.1 hb
        obtain ⟨_, rfl⟩ := List.getElem?_eq_some_iff.1 hk
        rcases Nat.lt_or_ge i k with h1 | h1
        · have := List.pairwise_iff_getElem.1 h i k hil hkl h1; omega
        · have := List.pairwise_iff_getElem.1 h k i hkl hil (by omega); omega
      simp [hne]
theorem perf_view {b : List Bu} (hb : b.Pairwise fun x y => x.lang < y.lang) (p : Pu) {x : Tr} {i k : Nat} {yf yt : Bu} (hi : b[i]? = some yf) (hf : yf.lang = x.fr) (hk : b[k]? = some yt) (ht : yt.lang = x.to) (_hne : x.fr ≠ x.to)
    (hc : ¬ (qg ((p x.fr).getD q0) x.stg < x.ms ∨ most < qg ((p x.to).getD q0) x.stg + x.ms)) :
    ((viewB b p).set i ⟨x.fr, qs ((p x.fr).getD q0) x.stg (qg ((p x.fr).getD q0) x.stg - x.ms)⟩).set k ⟨x.to, qs ((p x.to).getD q0) x.stg (qg ((p x.to).getD q0) x.stg + x.ms)⟩ = viewB b (perf p x) := by
  unfold viewB
  rw [map_set hb _ hi, map_set hb _ hk]
  refine List.map_congr_left fun y _ => ?_
  rw [perf_at, if_neg hc, hf, ht]
  by_cases h1 : y.lang = x.to
  · rw [if_pos h1, h1, B.upd_same]; rfl
  · rw [if_neg h1, B.upd_other _ _ h1]
    by_cases h2 : y.lang = x.fr
    · rw [if_pos h2, h2, B.upd_same]; rfl
    · rw [if_neg h2, B.upd_other _ _ h2]
theorem view_at {b : List Bu} (p : Pu) {i : Nat} {y : Bu} (h : (viewB b p)[i]? = some y) : ∃ z, b[i]? = some z ∧ z.lang = y.lang ∧ y.q = (p y.lang).getD q0 := by
  unfold viewB at h
  rw [List.getElem?_map] at h
  obtain ⟨z, hz, rfl⟩ := Option.map_eq_some_iff.1 h
  exact ⟨z, hz, rfl, rfl⟩
theorem buC_set (x : Bu) (s : Nat) (hs : s < 4) (v : Int) : buC ⟨x.lang, qs x.q s v⟩ = (buC x).set (1 + s) (.int .i64 v) := by
  have h : s = 0 ∨ s = 1 ∨ s = 2 ∨ s = 3 := by omega
  rcases h with rfl | rfl | rfl | rfl <;> rfl
theorem buC_get' (x : Bu) (k : Nat) (hk : k < 4) : (buC x)[1 + k]? = some (.int .i64 (qg x.q (k : Int))) := by
  have h : k = 0 ∨ k = 1 ∨ k = 2 ∨ k = 3 := by omega
  rcases h with rfl | rfl | rfl | rfl <;> rfl
set_option maxHeartbeats 8000000 in
set_option maxRecDepth 100000 in
theorem perform55 (A : Option Addr) (c : Nat) (b : List Bu) (p : Pu) (x : Tr) (w : World) (hb : b.Pairwise fun x y => x.lang < y.lang) (hS : Sl buC 5 w A c (viewB b p)) (h1 : has b x.fr = true) (h2 : has b x.to = true) (hne : x.fr ≠ x.to) (hs : stage x.stg) (hms : 1 ≤ x.ms ∧ x.ms ≤ most) (hp : okP p) (hbl : b.length ≤ 32) :
    Calls Try.prog 55 #[.slice A (viewB b p).length c, trV x] w fun e w' => ∃ A' c', e = .returned (.slice A' (viewB b (perf p x)).length c') ∧ Sl buC 5 w' A' c' (viewB b (perf p x)) ∧ Below w.heap.size w w' := by
  obtain ⟨s, hsx⟩ : ∃ s : Nat, x.stg = (s : Int) := ⟨x.stg.toNat, by have := hs.1; omega⟩
  have hs4 : s < 4 := by have := hs.2; omega
  have bF := okQ_get (okP_get hp x.fr) x.stg
  have bT := okQ_get (okP_get hp x.to) x.stg
  have KI := hide (fun n W (h : Below w.heap.size w W) => index24 A c (viewB b p) n W (hS.bel h))
  have hlen := view_len b p
  have hlen2 := view_len b (perf p x)
  obtain ⟨i, yf, e1, hyf, hyf1⟩ := ixGo_at (l := viewB b p) (n := 0) (p := fun y : Bu => decide (y.lang = x.fr)) (by have := has_view b p x.fr; unfold has at this; rw [this]; exact h1)
  obtain ⟨k, yt, e2, hyt, hyt1⟩ := ixGo_at (l := viewB b p) (n := 0) (p := fun y : Bu => decide (y.lang = x.to)) (by have := has_view b p x.to; unfold has at this; rw [this]; exact h2)
  replace hyf1 := of_decide_eq_true hyf1
  replace hyt1 := of_decide_eq_true hyt1
  obtain ⟨zf, hzf, hzf1, hzf2⟩ := view_at p hyf
  obtain ⟨zt, hzt, hzt1, hzt2⟩ := view_at p hyt
  have HV := hide (perf_view hb p hzf (hzf1.trans hyf1) hzt (hzt1.trans hyt1) hne)
  have hik : i ≠ k := fun e => by subst e; rw [hyf] at hyt; cases hyt; exact hne (hyf1.symm.trans hyt1)
  have il : i < (viewB b p).length := (List.getElem?_eq_some_iff.1 hyf).1
  have kl : k < (viewB b p).length := (List.getElem?_eq_some_iff.1 hyt).1
  obtain ⟨_, g, off, _, _, hA, hgw, _⟩ := Sl.bu_at hS il
  subst hA
  have HE := hide (show viewB b (perf p x) = if qg ((p x.fr).getD q0) x.stg < x.ms ∨ most < qg ((p x.to).getD q0) x.stg + x.ms then viewB b p else viewB b (perf p x) by
    by_cases hc : qg ((p x.fr).getD q0) x.stg < x.ms ∨ most < qg ((p x.to).getD q0) x.stg + x.ms
    · rw [if_pos hc, show perf p x = p from if_pos hc]
    · rw [if_neg hc])
  rw [hyf1] at hzf2
  rw [hyt1] at hzt2
  rw [Nat.zero_add] at e1 e2
  generalize viewB b (perf p x) = L at *
  generalize viewB b p = V at *
  have hVl : V.length ≤ 32 := by omega
  have HLEN := hide (And.intro hlen hlen2)
  clear hlen hlen2
  rw [← hzf2] at HE HV bF
  rw [← hzt2] at HE HV bT
  rw [hsx] at HE HV bF bT
  rw [show (most : Int) = 1073741824 from rfl] at HE HV bF bT hms
  obtain ⟨b1, off1, hA1, _, hcell⟩ := hS.addr (by intro e; subst e; simp at il)
  cases hA1
  have HF0 := hide (hcell i yf hyf (1 + s) _ (buC_get' yf s hs4))
  have HT0 := hide (hcell k yt hyt (1 + s) _ (buC_get' yt s hs4))
  have HSS := hide hS
  have XB := Blk.new w (trC x).toArray 40
  have HB := hide (kalloc (Below.refl w.heap.size w) (.cells (trC x).toArray 40))
  have hlc := hS.le
  have hcm := hS.max
  have HY := hide (And.intro hyf (And.intro hyt (And.intro hyf1 hyt1)))
  clear hcell hzf hzt hzf1 hzt1 hyf hyt hs hp h1 h2 hb hS hzf2 hzt2
  generalize hfs : qg yf.q (s : Int) = fs at *
  generalize hts : qg yt.q (s : Int) = ts at *
  have HFT := hide (And.intro hfs hts)
  clear hfs hts
  obtain ⟨x1, x2, x3, x4, x5, x6, x7⟩ := x
  simp only at hsx hyf1 hyt1 bF bT hms HE HV hne e1 e2
  subst hsx
  have KF := hide (fun W (h : Below w.heap.size w W) => (show Calls Try.prog 24 #[.slice (some ⟨g, off, none⟩) V.length c, .int .i64 x5] W _ from by have := KI.out x5 W h; rw [e1] at this; exact this))
  have KT := hide (fun W (h : Below w.heap.size w W) => (show Calls Try.prog 24 #[.slice (some ⟨g, off, none⟩) V.length c, .int .i64 x6] W _ from by have := KI.out x6 W h; rw [e2] at this; exact this))
  have HYL := hide (And.intro hyf1 hyt1)
  clear e1 e2 KI hyf1 hyt1
  have hsz4 : (s : Int) < 4 := by omega
  have iz : (i : Int) < (V.length : Int) := by omega
  have kz : (k : Int) < (V.length : Int) := by omega
  have hadd : IntKind.i64.wrap (ts + x7) = ts + x7 := by rw [IntKind.wrap_i64]; omega
  have hsub : IntKind.i64.wrap (fs - x7) = fs - x7 := by rw [IntKind.wrap_i64]; omega
  clear bF bT hms
  simp only [trV, trC] at *
  go_enter Try.func55, Try.ntmps55
  go_wp2_with fail
  generalize w.alloc (.cells #[.int .i64 x1, .int .i64 x2, .int .i64 x3, .int .i64 (s : Int), .int .i64 x5, .int .i64 x6, .int .i64 x7] 40) = w1 at *
  have c3 := XB.cell (v := .int .i64 (s : Int)) 3 rfl
  have c4 := XB.cell (v := .int .i64 x5) 4 rfl
  have c5 := XB.cell (v := .int .i64 x6) 5 rfl
  have c6 := XB.cell (v := .int .i64 x7) 6 rfl
  have f0 : w1.cell? ⟨g, off + i * 5 + 1 + s, none⟩ = some (.int .i64 fs) := by have := (HB.out.cell (p := ⟨g, off + (i * 5 + (1 + s)), none⟩) hgw).trans HF0.out; rwa [show off + (i * 5 + (1 + s)) = off + i * 5 + 1 + s by omega] at this
  have t0 : w1.cell? ⟨g, off + k * 5 + 1 + s, none⟩ = some (.int .i64 ts) := by have := (HB.out.cell (p := ⟨g, off + (k * 5 + (1 + s)), none⟩) hgw).trans HT0.out; rwa [show off + (k * 5 + (1 + s)) = off + k * 5 + 1 + s by omega] at this
  have hxl := XB.lt
  refine (KF.out _ HB.out).mono ?_
  rintro e w2 ⟨rfl, rfl⟩
  go_wp2_with fail
  refine (KT.out _ HB.out).mono ?_
  rintro e w2 ⟨rfl, rfl⟩
  rcases Bool.eq_false_or_eq_true (decide (fs < x7)) with g1 | g1
  · have HE2 := hide (HE.out.trans (if_pos (.inl (of_decide_eq_true g1))))
    clear HE HV
    go_wp2_with fail
    refine wp_still_all (by kernel_rfl) (by kernel_rfl) ?_
    repeat ((with_reducible refine wpStill_step (fun K hK => ?_)); go_simp; (try go_bits); (with_reducible refine hK _ ?_); clear hK K)
    (with_reducible refine wpStill_nil ?_)
    go_wp2
    go_ret
    exact ⟨_, _, by rw [HE2.out]; rfl, by rw [HE2.out]; exact (HSS.out.bel HB.out).drew, HB.out.drew⟩
  · rcases Bool.eq_false_or_eq_true (decide (1073741824 < ts + x7)) with g2 | g2
    · have HE2 := hide (HE.out.trans (if_pos (.inr (of_decide_eq_true g2))))
      clear HE HV
      go_wp2_with fail
      refine wp_still_all (by kernel_rfl) (by kernel_rfl) ?_
      repeat ((with_reducible refine wpStill_step (fun K hK => ?_)); go_simp; (try go_bits); (with_reducible refine hK _ ?_); clear hK K)
      (with_reducible refine wpStill_nil ?_)
      go_wp2
      go_ret
      exact ⟨_, _, by rw [HE2.out]; rfl, by rw [HE2.out]; exact (HSS.out.bel HB.out).drew, HB.out.drew⟩
    · have HV2 := hide (HV.out (by intro hc; rcases hc with hc | hc; exact of_decide_eq_false g1 hc; exact of_decide_eq_false g2 hc))
      obtain ⟨i0, hi, hi0, hi1, hi2⟩ := info_parts Try_info26
      have HI := hide hi
      have HS1 := hide (HSS.out.bel HB.out)
      clear HE HV hi
      go_wp2_with fail
      refine wp_still_all (by kernel_rfl) (by kernel_rfl) ?_
      repeat ((with_reducible refine wpStill_step (fun K hK => ?_)); go_simp; (try go_bits); (with_reducible refine hK _ ?_); clear hK K)
      (with_reducible refine wpStill_nil ?_)
      go_wp2_with (at_builtin; refine wpList_append rfl (.tmp 42) (.tmp 43) 22 rfl rfl rfl (run_ext_bu (base := w1.heap.size) (l1 := []) (l2 := V) Try.underlying22 HI.out hi0 hi1 hi2 rfl (OwnL.fresh' (by simp) (Nat.le_refl _)) rfl (HS1.out.drew.alloc _) ?_ ?_ ?_) ?_)
      · simp only [List.length_nil, maxLen]; omega
      · simp only [List.length_nil]; omega
      · first | exact Nat.le_refl _ | (simp; done) | skip
      · intro v' w' hO hg _
        have hb3 : Below w1.heap.size w1 w' := Below.grown (kalloc (Below.refl _ _) (.cells #[] 26)).drew hg (by first | exact Nat.le_refl _ | simp) (fun k hk => by simp [Value.ownBlock] at hk; omega)
        have HB3 := hide (kcall HB.out hb3)
        have X3 := XB.bel hb3
        obtain ⟨g2, cap, rfl, hg2, hgw2, hlcap, hcap, hfz, hcc, hput⟩ := own_at hO HY.out.1
        have hgx : w.heap.size < g2 := by omega
        have hgg : g < g2 := by omega
        have f1 : w'.cell? ⟨g, off + i * 5 + 1 + s, none⟩ = some (.int .i64 fs) := (hb3.cell (p := ⟨g, off + i * 5 + 1 + s, none⟩) (by show g < _; omega)).trans f0
        have t1 : w'.cell? ⟨g, off + k * 5 + 1 + s, none⟩ = some (.int .i64 ts) := (hb3.cell (p := ⟨g, off + k * 5 + 1 + s, none⟩) (by show g < _; omega)).trans t0
        have d3 := X3.cell (v := .int .i64 (s : Int)) 3 rfl
        have d6 := X3.cell (v := .int .i64 x7) 6 rfl
        have e6 : w'.cell? ⟨g2, i * 5 + 1 + s, none⟩ = some (.int .i64 fs) := by have := hcc (1 + s) _ (buC_get' yf s hs4); rw [HFT.out.1] at this; rwa [show i * 5 + (1 + s) = i * 5 + 1 + s by omega] at this
        have z6 := hfz (i * 5 + 1 + s)
        have HO6 := hide (hput (1 + s) (.int .i64 (fs - x7)) ⟨yf.lang, qs yf.q s (fs - x7)⟩ (w'.drew.setCell ⟨g2, i * 5 + 1 + s, none⟩ (.int .i64 (fs - x7))) (by rw [show i * 5 + 1 + s = i * 5 + (1 + s) by omega]; rfl) (by omega) (buC_set yf s hs4 (fs - x7)))
        have hO6z := HYL.out.1
        rw [hO6z] at HO6
        have HX6 := hide (X3.drew.far ⟨g2, i * 5 + 1 + s, none⟩ (.int .i64 (fs - x7)) (by show w.heap.size ≠ g2; omega))
        have HT6 := hide (show (w'.drew.setCell ⟨g2, i * 5 + 1 + s, none⟩ (.int .i64 (fs - x7))).cell? ⟨g, off + k * 5 + 1 + s, none⟩ = some (.int .i64 ts) from (by rw [← t1]; simp only [World.cell?]; rw [Below.heap_setCell _ _ _ _ (by show g ≠ g2; omega)]; rfl))
        have HB6 := hide (HB3.out.drew.setCell (p := ⟨g2, i * 5 + 1 + s, none⟩) (by show w.heap.size ≤ g2; omega) (.int .i64 (fs - x7)))
        have X3l := X3.lt
        clear hO hg hb3 HB3 X3 hput hcc hfz t1 f0 t0 c3 c4 c5 c6 hO6z hxl
        go_wp2_with fail
        refine wp_still_tail 17 (by kernel_rfl) (by kernel_rfl) ?_
        simp only [List.take_succ_cons, List.take_zero, List.drop_succ_cons, List.drop_zero]
        repeat ((with_reducible refine wpStill_step (fun K hK => ?_)); go_simp; (try go_bits); (with_reducible refine hK _ ?_); clear hK K)
        (with_reducible refine wpStill_nil ?_)
        go_wp2_with fail
        refine at_world (fun w3 => OwnL buC 5 26 w3 w1.heap.size (.slice (some ⟨g2, 0, none⟩) V.length cap) (V.set i ⟨x5, qs yf.q s (fs - x7)⟩) ∧ Blk w3 w.heap.size 40 #[.int .i64 x1, .int .i64 x2, .int .i64 x3, .int .i64 (s : Int), .int .i64 x5, .int .i64 x6, .int .i64 x7] ∧ w3.cell? ⟨g, off + k * 5 + 1 + s, none⟩ = some (.int .i64 ts) ∧ Below w.heap.size w w3) ⟨HO6.out, HX6.out, HT6.out, HB6.out⟩ ?_
        clear HO6 HX6 HT6 HB6 d3 d6 e6 z6 f1 X3l
        rintro w3 ⟨hO, X3, t1, hB⟩
        obtain ⟨g3, cap3, hv3, hg3, hgw3, _, _, hfz, hcc, hput⟩ := own_at hO (show (V.set i ⟨x5, qs yf.q s (fs - x7)⟩)[k]? = some yt by rw [List.getElem?_set_ne hik]; exact HY.out.2.1)
        simp only [Value.slice.injEq, Option.some.injEq, Addr.mk.injEq, List.length_set, and_true, true_and] at hv3
        obtain ⟨rfl, rfl⟩ := hv3
        have d3 := X3.cell (v := .int .i64 (s : Int)) 3 rfl
        have d6 := X3.cell (v := .int .i64 x7) 6 rfl
        have e6 : w3.cell? ⟨g2, k * 5 + 1 + s, none⟩ = some (.int .i64 ts) := by have := hcc (1 + s) _ (buC_get' yt s hs4); rw [HFT.out.2] at this; rwa [show k * 5 + (1 + s) = k * 5 + 1 + s by omega] at this
        have z6 := hfz (k * 5 + 1 + s)
        have HO7 := hide (hput (1 + s) (.int .i64 (ts + x7)) ⟨yt.lang, qs yt.q s (ts + x7)⟩ (w3.drew.setCell ⟨g2, k * 5 + 1 + s, none⟩ (.int .i64 (ts + x7))) (by rw [show k * 5 + 1 + s = k * 5 + (1 + s) by omega]; rfl) (by omega) (buC_set yt s hs4 (ts + x7)))
        rw [HYL.out.2, HV2.out] at HO7
        have HB7 := hide (hB.drew.setCell (p := ⟨g2, k * 5 + 1 + s, none⟩) (by show w.heap.size ≤ g2; omega) (.int .i64 (ts + x7)))
        have X3l := X3.lt
        clear hO X3 hB hfz hcc hput
        refine wp_still_tail 17 (by kernel_rfl) (by kernel_rfl) ?_
        simp only [List.take_succ_cons, List.take_zero, List.drop_succ_cons, List.drop_zero]
        repeat ((with_reducible refine wpStill_step (fun K hK => ?_)); go_simp; (try go_bits); (with_reducible refine hK _ ?_); clear hK K)
        (with_reducible refine wpStill_nil ?_)
        obtain ⟨A9, c9, h9, hS9⟩ := HO7.out.sl
        simp only [Value.slice.injEq] at h9
        obtain ⟨rfl, hlen9, rfl⟩ := h9
        have HS9 := hide hS9
        have HL9 := hide hlen9
        clear hS9 hlen9
        go_wp2
        go_ret
        exact ⟨_, _, by rw [← HL9.out]; rfl, HS9.out, HB7.out⟩
end Go.Proofs.Ytklndmnhhakmiaa
namespace Go.Proofs.Ytklndmnhhakmiaa
open Go.RowKit Go.Mine Go.Mine.B Go.Sort Go.Shelf
attribute [local go_sem] Oper.semAt_some
theorem ins_split : ∀ {l : List Tr} {x : Tr} {k : Nat}, (∀ y ∈ l.take k, y.at_ ≤ x.at_) → (k = l.length ∨ ∃ y, l[k]? = some y ∧ ¬ y.at_ ≤ x.at_) → ins l x = l.take k ++ ([x] ++ l.drop k)
  | [], x, k, _, _ => by simp [ins]
  | y :: l, x, 0, _, h => by
    rcases h with h | ⟨z, hz, hn⟩
    · simp at h
    · simp at hz; subst hz
      unfold ins
      rw [if_neg hn]; rfl
  | y :: l, x, k + 1, h1, h2 => by
    unfold ins
    rw [if_pos (h1 y (by simp))]
    rw [ins_split (l := l) (k := k) (fun z hz => h1 z (by simp [hz])) (by
      rcases h2 with h | ⟨z, hz, hn⟩
      · exact .inl (by simpa using h)
      · exact .inr ⟨z, by simpa using hz, hn⟩)]
    rfl
theorem ins_len (l : List Tr) (x : Tr) : (ins l x).length = l.length + 1 := by rw [(ins_perm l x).length_eq]; rfl
theorem tr_take {w : World} {A : Option Addr} {c : Nat} {l : List Tr} (h : Sl trC 7 w A c l) (k : Nat) : Sl trC 7 w A c (l.take k) := by
  refine ⟨Nat.le_trans (List.length_take_le' _ _) h.le, h.max, fun _ _ => rfl, fun hn => ?_⟩
  obtain ⟨b, off, e, hb, hc⟩ := h.cells (by rintro rfl; simp at hn)
  refine ⟨b, off, e, hb, fun i v hv => hc i v ?_⟩
  have e1 : l.flatMap trC = (l.take k).flatMap trC ++ (l.drop k).flatMap trC := by rw [← List.flatMap_append, List.take_append_drop]
  rw [e1, List.getElem?_append_left (List.getElem?_eq_some_iff.1 hv).1]; exact hv
theorem tr_part {w : World} {b off c c' : Nat} {l : List Tr} (h : Sl trC 7 w (some ⟨b, off, none⟩) c l) (k : Nat) (hc : l.length - k ≤ c') (hc2 : c' ≤ 9223372036854775807) : Sl trC 7 w (some ⟨b, off + k * 7, none⟩) c' (l.drop k) := by
  refine ⟨by simpa using hc, hc2, fun _ _ => rfl, fun hn => ?_⟩
  have hkl : k < l.length := by
    rcases Nat.lt_or_ge k l.length with h' | h'
    · exact h'
    · exact absurd (List.drop_of_length_le h') hn
  obtain ⟨b', off', e, hb, hcell⟩ := h.cells (by rintro rfl; simp at hn)
  simp only [Option.some.injEq, Addr.mk.injEq, and_true] at e
  obtain ⟨rfl, rfl⟩ := e
  refine ⟨b, off + k * 7, rfl, hb, fun i v hv => ?_⟩
  rw [Nat.add_assoc]
  refine hcell (k * 7 + i) v ?_
  have e1 : l.flatMap trC = (l.take k).flatMap trC ++ (l.drop k).flatMap trC := by rw [← List.flatMap_append, List.take_append_drop]
  have hlen : ((l.take k).flatMap trC).length = k * 7 := by rw [flat_length trC 7 _ (fun x _ => trC_len x)]; simp; omega
  rw [e1, List.getElem?_append_right (by omega), hlen, Nat.add_sub_cancel_left]
  exact hv
theorem argA_parts {at_ known : Int} : argA at_ known = (inR at_ 0 1099511627775 && inR known 0 1099511627775) := rfl
theorem standing21_bad (A : Option Addr) (c : Nat) (b : List Bu) (B : Option Addr) (d : Nat) (l : List Tr) (at_ known : Int) (w : World) (hS : Sl buC 5 w A c b) (hT : Sl trC 7 w B d l) (hz : chk 400 b l ≠ 0) :
    Calls Try.prog 21 #[.slice A b.length c, .slice B l.length d, .int .i64 at_, .int .i64 known] w (SlE buC 5 [] (chk 400 b l) w) := by
  have K := hide (check19 A c b B d l _ hS hT)
  generalize chk 400 b l = C at *
  have gc : (C != 0) = true := by simpa using hz
  clear hS hT hz
  go_enter Try.func21, Try.ntmps21
  go_wp2_with fail
  refine K.out.mono ?_
  rintro e w1 ⟨rfl, hb⟩
  have HB := hide hb
  clear hb
  go_wp2
  exact bodyPost_ret (v := .tuple #[.slice none 0 0, .int .i64 _]) (by simp [results, Try.results21, go_sem]) rfl (SlE.nil HB.out)
theorem standing21_arg (A : Option Addr) (c : Nat) (b : List Bu) (B : Option Addr) (d : Nat) (l : List Tr) (at_ known : Int) (w : World) (hS : Sl buC 5 w A c b) (hT : Sl trC 7 w B d l) (hz : chk 400 b l = 0) (ha : argA at_ known = false) :
    Calls Try.prog 21 #[.slice A b.length c, .slice B l.length d, .int .i64 at_, .int .i64 known] w (SlE buC 5 [] 1 w) := by
  have K := hide (check19 A c b B d l _ hS hT)
  rw [hz] at K
  have K1 := hide (fun w => within36 at_ 1099511627775 w)
  have K2 := hide (fun w => within36 known 1099511627775 w)
  unfold argA at ha
  generalize inR at_ 0 1099511627775 = r1 at *
  generalize inR known 0 1099511627775 = r2 at *
  clear hS hT hz
  have hc : r1 = false ∨ (r1 = true ∧ r2 = false) := by cases r1 <;> simp_all
  clear ha
  rcases hc with rfl | ⟨rfl, rfl⟩
  all_goals
    go_enter Try.func21, Try.ntmps21
    go_wp2_with fail
    refine K.out.mono ?_
    rintro e w1 ⟨rfl, hb⟩
    have HB := hide hb
    clear hb
    go_wp2_with (first | (go_at_call 36; with_reducible refine (K1.out _).mono ?_; rintro e w' ⟨rfl, rfl⟩) | (go_at_call 36; with_reducible refine (K2.out _).mono ?_; rintro e w' ⟨rfl, rfl⟩))
    exact bodyPost_ret (v := .tuple #[.slice none 0 0, .int .i64 _]) (by simp [results, Try.results21, go_sem]) rfl (SlE.nil HB.out)
set_option maxHeartbeats 16000000 in
set_option maxRecDepth 100000 in
theorem standing21_good (A : Option Addr) (c : Nat) (b : List Bu) (B : Option Addr) (d : Nat) (l : List Tr) (at_ known : Int) (w : World) (hS : Sl buC 5 w A c b) (hT : Sl trC 7 w B d l) (hz : chk 400 b l = 0) (ha : argA at_ known = true) :
    Calls Try.prog 21 #[.slice A b.length c, .slice B l.length d, .int .i64 at_, .int .i64 known] w (SlE buC 5 (standing b l at_ known) 0 w) := by
  obtain ⟨hcb, hbl, hll⟩ := chk_zero' hz
  obtain ⟨p1, p2, p3, p4⟩ := chkB_parts hcb
  have K := hide (check19 A c b B d l _ hS hT)
  rw [hz] at K
  have K1 := hide (fun w => within36 at_ 1099511627775 w)
  have K2 := hide (fun w => within36 known 1099511627775 w)
  unfold argA at ha
  simp only [Bool.and_eq_true] at ha
  rw [ha.1] at K1
  rw [ha.2] at K2
  have HP := hide (And.intro p1 (And.intro p2 (And.intro p3 p4)))
  have HS := hide hS
  have HT := hide hT
  have hlb := hS.le
  have hmb := hS.max
  have hlt := hT.le
  have hmt := hT.max
  obtain ⟨i0, hi, hz0, hz1, hz2⟩ := info_parts Try_info40
  have HI := hide hi
  clear hS hT hz ha p1 p2 p3 p4 hi
  obtain ⟨S, hSS⟩ : ∃ S, srt (picks l at_ known) = S := ⟨_, rfl⟩
  have HSD := hide hSS
  have HSG := hide (show S = ((l.drop 0).filter fun x => !latePr at_ known x).foldl ins [] by rw [← hSS]; rfl)
  have HX := hide (show ∀ x ∈ S, x ∈ l from fun x hx => by rw [← hSS] at hx; exact (List.mem_filter.1 (srt_mem _ x hx)).1)
  have HF := hide (show standing b l at_ known = viewB b (S.foldl perf (ofB b)) by rw [← hSS]; rfl)
  have hSl : S.length ≤ 4096 := by rw [← hSS, (srt_is (pair_picks HP.out.2.2.2 at_ known)).1.length_eq]; exact Nat.le_trans (List.length_filter_le _ _) hll
  clear hSS
  generalize standing b l at_ known = L at *
  go_enter Try.func21, Try.ntmps21
  go_wp2_with fail
  refine K.out.mono ?_
  rintro e w1 ⟨rfl, hb⟩
  have HB := hide (kalloc hb (.cells #[] 40))
  have hS0 := hide (show Sl trC 7 (w1.alloc (.cells #[] 40)) (some ⟨w1.heap.size, 0, none⟩) 0 ([] : List Tr) from Sl.nil (by decide))
  clear hb K
  go_wp2_with (first | (go_at_call 36; with_reducible refine (K1.out _).mono ?_; rintro e w' ⟨rfl, rfl⟩) | (go_at_call 36; with_reducible refine (K2.out _).mono ?_; rintro e w' ⟨rfl, rfl⟩))
  generalize w1.alloc (.cells #[] 40) = w2 at *
  generalize w1.heap.size = g0 at *
  go_loopw [11, 12, 13] (fun v i _ wr => ∃ (k : Nat) (st : List Tr) (g cp : Nat), k ≤ l.length ∧ i = .int .i64 k ∧ v = .slice (some ⟨g, 0, none⟩) st.length cp ∧ st.length ≤ k ∧ Hid (S = ((l.drop k).filter fun x => !latePr at_ known x).foldl ins st) ∧ Hid (Sl trC 7 wr (some ⟨g, 0, none⟩) cp st) ∧ Hid (Below w.heap.size w wr)) (fun _ i _ _ => l.length - (nI i).toNat)
  case atStart => exact ⟨0, [], _, _, Nat.zero_le _, rfl, rfl, Nat.le_refl _, HSG, hS0, HB⟩
  case round =>
    obtain ⟨k, st, g, cp, hk, rfl, rfl, hstk, HQ, HO, HB⟩ := hrel
    have hstc := HO.out.le
    have hcpm := HO.out.max
    by_cases hlt2 : k < l.length
    · obtain ⟨x, gl, off, hx, hdr, rfl, hgw, c0, c1, c2, c3, c4, c5, c6⟩ := Sl.tr_at (HT.out.bel HB.out) hlt2
      have hq := HQ.out
      rw [hdr, List.filter_cons] at hq
      have HL := hide (show latePr at_ known x = (decide (at_ < x.at_) || decide (known < x.known)) from rfl)
      obtain ⟨x1, x2, x3, x4, x5, x6, x7⟩ := x
      simp only at c0 c1 c2 c3 c4 c5 c6 HL
      rcases Bool.eq_false_or_eq_true (latePr at_ known ⟨x1, x2, x3, x4, x5, x6, x7⟩) with hlate | hlate
      · rw [hlate, if_neg (by simp)] at hq
        have HQ2 := hide hq
        have hor : decide (at_ < x2) = true ∨ (decide (at_ < x2) = false ∧ decide (known < x3) = true) := by
          have h0 := HL.out
          rw [hlate] at h0
          rcases Bool.eq_false_or_eq_true (decide (at_ < x2)) with h1 | h1
          · exact .inl h1
          · exact .inr ⟨h1, by rw [h1, Bool.false_or] at h0; exact h0.symm⟩
        clear hq HQ hx hdr hlate HL
        rcases hor with g1 | ⟨g1, g2⟩
        all_goals
          go_wp2
          go_roundw
          case rel => exact ⟨k + 1, st, g, cp, by omega, by go_num, rfl, by omega, HQ2, HO, HB⟩
          case measure => simp [nI]; omega
      · rw [hlate, if_pos (by simp), List.foldl_cons] at hq
        have h0 := HL.out
        rw [hlate] at h0
        have g1 : decide (at_ < x2) = false := by
          rcases Bool.eq_false_or_eq_true (decide (at_ < x2)) with h1 | h1
          · rw [h1, Bool.true_or] at h0; cases h0
          · exact h1
        have g2 : decide (known < x3) = false := by rw [g1, Bool.false_or] at h0; exact h0.symm
        have HQ2 := hide hq
        have HSP := hide (fun j h1 h2 => ins_split (l := st) (x := ⟨x1, x2, x3, x4, x5, x6, x7⟩) (k := j) h1 h2)
        have HLen := hide (ins_len st ⟨x1, x2, x3, x4, x5, x6, x7⟩)
        have hgwr : gl < wr.heap.size := hgw
        clear hq HQ hx hdr hlate HL h0
        go_wp2
        clear g1 g2
        go_loopw [13] (fun i w2 => ∃ (j n : Nat), j ≤ st.length ∧ i = .int .i64 j ∧ Hid (∀ y ∈ st.take j, y.at_ ≤ x2) ∧ w2 = wr.drewN n) (fun i _ => st.length - (nI i).toNat)
        case atStart => exact ⟨0, 0, Nat.zero_le _, rfl, hide (by simp), rfl⟩
        case round =>
          obtain ⟨j, n, hj, rfl, HY, rfl⟩ := hrel
          have HOn := hide (show Sl trC 7 (wr.drewN n) (some ⟨g, 0, none⟩) cp st from HO.out.bel (below_drewN (Below.refl _ _) n))
          have HBn := hide (show Below w.heap.size w (wr.drewN n) from below_drewN HB.out n)
          have e0 : (wr.drewN n).cell? ⟨gl, off + k * 7, none⟩ = some (.int .i64 x1) := c0
          have e1 : (wr.drewN n).cell? ⟨gl, off + k * 7 + 1, none⟩ = some (.int .i64 x2) := c1
          have e2 : (wr.drewN n).cell? ⟨gl, off + k * 7 + 2, none⟩ = some (.int .i64 x3) := c2
          have e3 : (wr.drewN n).cell? ⟨gl, off + k * 7 + 3, none⟩ = some (.int .i64 x4) := c3
          have e4 : (wr.drewN n).cell? ⟨gl, off + k * 7 + 4, none⟩ = some (.int .i64 x5) := c4
          have e5 : (wr.drewN n).cell? ⟨gl, off + k * 7 + 5, none⟩ = some (.int .i64 x6) := c5
          have e6 : (wr.drewN n).cell? ⟨gl, off + k * 7 + 6, none⟩ = some (.int .i64 x7) := c6
          have hgn : gl < (wr.drewN n).heap.size := hgw
          have hDN := hide (show (wr.drewN n).drew = wr.drewN (n + 1) from rfl)
          clear c0 c1 c2 c3 c4 c5 c6 hgw hgwr HO HB
          by_cases hgo : j < st.length ∧ ∀ y, st[j]? = some y → y.at_ ≤ x2
          · obtain ⟨hjl, hjy⟩ := hgo
            obtain ⟨y, gs, os, hy, hdr, hA, hgs, d0, d1, _⟩ := Sl.tr_at HOn.out hjl
            cases hA
            simp only [Nat.zero_add] at d0 d1
            have hya := hjy y hy
            have gy : decide (y.at_ ≤ x2) = true := decide_eq_true hya
            have HY2 := hide (show ∀ z ∈ st.take (j + 1), z.at_ ≤ x2 from fun z hz => by
              rw [take_of_get hy] at hz
              rcases List.mem_append.1 hz with hz | hz
              · exact HY.out z hz
              · rw [List.mem_singleton.1 hz]; exact hya)
            clear hjy hy hdr hya HY
            generalize wr.drewN n = wn at *
            go_wp2_with fail
            refine wp_still_all (by kernel_rfl) (by kernel_rfl) ?_
            repeat ((with_reducible refine wpStill_step (fun K hK => ?_)); go_simp; (try go_bits); (with_reducible refine hK _ ?_); clear hK K)
            (with_reducible refine wpStill_nil ?_)
            go_wp2
            go_roundw
            case rel => exact ⟨j + 1, n + 1, by omega, by go_num, HY2, hDN.out⟩
            case measure => simp [nI]; omega
          · have hstop : j = st.length ∨ ∃ y, st[j]? = some y ∧ ¬ y.at_ ≤ x2 := by
              by_cases hjl : j < st.length
              · refine .inr ⟨st[j], List.getElem?_eq_getElem hjl, fun hle => hgo ⟨hjl, fun y hy => ?_⟩⟩
                rw [List.getElem?_eq_getElem hjl] at hy
                cases hy
                exact hle
              · exact .inl (by omega)
            have HE := hide (HSP.out j HY.out (by rcases hstop with h | ⟨y, h, hn⟩; exact .inl h; exact .inr ⟨y, h, by first | exact hn | omega⟩))
            have HT1 := hide (show Sl trC 7 (wr.drewN n).drew (some ⟨g, 0, none⟩) cp (st.take j) from (tr_take HOn.out j).drew)
            have HT2 := hide (show Sl trC 7 (wr.drewN n).drew (if cp = j then some ⟨g, 0, none⟩ else some ⟨g, j * 7, none⟩) (cp - j) (st.drop j) from by
              by_cases hjl : j < st.length
              · rw [if_neg (by omega)]
                have := tr_part (c' := cp - j) HOn.out j (by omega) (by omega)
                rw [Nat.zero_add] at this
                exact this.drew
              · rw [List.drop_of_length_le (by omega)]
                exact Sl.nil (by omega))
            have HB3 := hide (show Below w.heap.size w (wr.drewN n).drew from HBn.out.drew)
            have u0 : (wr.drewN n).drew.cell? ⟨gl, off + k * 7, none⟩ = some (.int .i64 x1) := e0
            have u1 : (wr.drewN n).drew.cell? ⟨gl, off + k * 7 + 1, none⟩ = some (.int .i64 x2) := e1
            have u2 : (wr.drewN n).drew.cell? ⟨gl, off + k * 7 + 2, none⟩ = some (.int .i64 x3) := e2
            have u3 : (wr.drewN n).drew.cell? ⟨gl, off + k * 7 + 3, none⟩ = some (.int .i64 x4) := e3
            have u4 : (wr.drewN n).drew.cell? ⟨gl, off + k * 7 + 4, none⟩ = some (.int .i64 x5) := e4
            have u5 : (wr.drewN n).drew.cell? ⟨gl, off + k * 7 + 5, none⟩ = some (.int .i64 x6) := e5
            have u6 : (wr.drewN n).drew.cell? ⟨gl, off + k * 7 + 6, none⟩ = some (.int .i64 x7) := e6
            have hgd : gl < (wr.drewN n).drew.heap.size := hgn
            have hT1l : (st.take j).length = j := by simp; omega
            have hT2l : (st.drop j).length = st.length - j := by simp
            have hor : (j = st.length) ∨ (j < st.length ∧ ∃ y b' o', some ⟨g, 0, none⟩ = some (⟨b', o', none⟩ : Addr) ∧ (wr.drewN n).cell? ⟨b', o' + j * 7 + 1, none⟩ = some (.int .i64 y) ∧ decide (y ≤ x2) = false) := by
              rcases hstop with h | ⟨y, hy, hn⟩
              · exact .inl h
              · have hjl : j < st.length := (List.getElem?_eq_some_iff.1 hy).1
                obtain ⟨z, gs, os, hz, _, hA, _, _, d1, _⟩ := Sl.tr_at HOn.out hjl
                rw [hy] at hz
                cases hz
                exact .inr ⟨hjl, y.at_, gs, os, hA, d1, decide_eq_false hn⟩
            have HQ3 := hide (show S = ((l.drop (k + 1)).filter fun x => !latePr at_ known x).foldl ins (st.take j ++ ([(⟨x1, x2, x3, x4, x5, x6, x7⟩ : Tr)] ++ st.drop j)) by rw [← HE.out]; exact HQ2.out)
            have HLen3 := hide (show (st.take j ++ ([(⟨x1, x2, x3, x4, x5, x6, x7⟩ : Tr)] ++ st.drop j)).length = st.length + 1 by rw [← HE.out]; exact HLen.out)
            have gcp : (j : Int) ≤ (cp : Int) := by omega
            have glen : (st.length : Int) ≤ (cp : Int) := by omega
            have gj : (j : Int) ≤ (st.length : Int) := by omega
            have gj0 : (0 : Int) ≤ (j : Int) := by omega
            clear hgo hstop HE HSP HLen HQ2 HY HOn HBn
            generalize wr.drewN n = wn at *
            have HST := hide (And.intro (show st.take j = st.take j from rfl) (show st.drop j = st.drop j from rfl))
            clear HST
            generalize st.take j = T1 at *
            generalize st.drop j = T2 at *
            rcases hor with hjl | ⟨hjl, y, b', o', hA, d1, gy⟩
            · have gjl : ¬ j < st.length := by omega
              clear hjl
              go_wp2_with fail
              refine wp_still_all (by kernel_rfl) (by kernel_rfl) ?_
              repeat ((with_reducible refine wpStill_step (fun K hK => ?_)); go_simp; (try go_bits); (with_reducible refine hK _ ?_); clear hK K)
              (with_reducible refine wpStill_nil ?_)
              clear e0 e1 e2 e3 e4 e5 e6
              go_wp2_with fail
              generalize wn.drew = W at *
              have i1 : (0 : Int) ≤ (k : Int) := by omega
              go_region_law (first
                | (refine step_append (v := .slice (some ⟨_, 0, none⟩) 0 0) (u := .slice (some ⟨g, 0, none⟩) j cp) rfl (.tmp 72) (.tmp 75) 23 rfl rfl rfl (run_ext_tr (base := W.heap.size) (l1 := []) (l2 := T1) Try.underlying23 HI.out hz0 hz1 hz2 rfl (by first | exact (OwnL.fresh' (by simp) (by omega)).drew | exact ((OwnL.fresh' (by simp) (by omega)).alloc _).drew) hT1l (by first | exact (HT1.out.alloc _).drew | exact ((HT1.out.alloc _).alloc _).drew) (by first | omega | (simp; done) | (simp; omega) | (simp [maxLen]; done) | (simp [maxLen]; omega)) (by first | omega | (simp; done) | (simp; omega) | (simp [maxLen]; done) | (simp [maxLen]; omega)) (by first | omega | (simp; done) | (simp; omega) | (simp [maxLen]; done) | (simp [maxLen]; omega))) ?_
                   rintro v' w' ⟨gO, gG, gB⟩
                   have gBel : Below W.heap.size W w' := Below.grown (by first | exact (kalloc (Below.refl _ _) _).drew | exact (kalloc (kalloc (Below.refl _ _) _) _).drew) gG (by first | omega | (simp; done) | (simp; omega) | (simp [maxLen]; done) | (simp [maxLen]; omega)) (fun k hk => by simp [Value.ownBlock] at hk; omega)
                   have gN : W.heap.size ≤ w'.heap.size := gBel.size
                   have f0 := (gBel.cell (p := ⟨gl, off + k * 7, none⟩) hgd).trans u0
                   have f1 := (gBel.cell (p := ⟨gl, off + k * 7 + 1, none⟩) hgd).trans u1
                   have f2 := (gBel.cell (p := ⟨gl, off + k * 7 + 2, none⟩) hgd).trans u2
                   have f3 := (gBel.cell (p := ⟨gl, off + k * 7 + 3, none⟩) hgd).trans u3
                   have f4 := (gBel.cell (p := ⟨gl, off + k * 7 + 4, none⟩) hgd).trans u4
                   have f5 := (gBel.cell (p := ⟨gl, off + k * 7 + 5, none⟩) hgd).trans u5
                   have f6 := (gBel.cell (p := ⟨gl, off + k * 7 + 6, none⟩) hgd).trans u6
                   try (have xB := Blk.grown (b := W.heap.size + 1) (cs := #[.int .i64 x1, .int .i64 x2, .int .i64 x3, .int .i64 x4, .int .i64 x5, .int .i64 x6, .int .i64 x7]) (ty := 40) (Blk.drew (Blk.new' (by simp))) gG (by simp [Value.ownBlock]))
                   try (have xB := Blk.grown (b := W.heap.size) (cs := #[.int .i64 x1, .int .i64 x2, .int .i64 x3, .int .i64 x4, .int .i64 x5, .int .i64 x6, .int .i64 x7]) (ty := 40) (Blk.drew (Blk.alloc (Blk.new' (by simp)) _)) gG (by simp [Value.ownBlock])))
                | (refine step_append (v := v') (u := .slice (some ⟨_, 0, none⟩) 1 1) rfl (.tmp 76) (.tmp 81) 23 rfl rfl rfl (run_ext_tr (base := W.heap.size) (l1 := [] ++ T1) (l2 := [⟨x1, x2, x3, x4, x5, x6, x7⟩]) Try.underlying23 HI.out hz0 hz1 hz2 rfl (by first | exact gO | exact gO.alloc _) rfl (by first | exact Sl.one xB rfl rfl (by decide) (by decide) | exact Sl.one (Blk.new' rfl) rfl rfl (by decide) (by decide)) (by first | omega | (simp; done) | (simp; omega) | (simp [maxLen]; done) | (simp [maxLen]; omega)) (by first | omega | (simp; done) | (simp; omega) | (simp [maxLen]; done) | (simp [maxLen]; omega)) (by first | exact gN | exact Nat.le_trans gN (by simp))) ?_
                   rintro v2 w2 ⟨gO2, gG2, gB2⟩
                   have gBel2 : Below W.heap.size W w2 := Below.grown (by first | exact gBel | exact gBel.alloc gN _) gG2 (by first | exact gN | exact Nat.le_trans gN (by simp)) (fun k hk => (gO.blk hk).1)
                   have gN2 := gBel2.size
                   have gT2 := HT2.out.bel gBel2)
                | (refine step_append (v := v2) (u := .slice (if cp = j then some ⟨g, 0, none⟩ else some ⟨g, j * 7, none⟩) (st.length - j) (cp - j)) rfl (.tmp 82) (.tmp 85) 23 rfl rfl rfl (run_ext_tr (base := W.heap.size) (l1 := [] ++ T1 ++ [⟨x1, x2, x3, x4, x5, x6, x7⟩]) (l2 := T2) Try.underlying23 HI.out hz0 hz1 hz2 rfl gO2 hT2l gT2 (by first | omega | (simp; done) | (simp; omega) | (simp [maxLen]; done) | (simp [maxLen]; omega)) (by first | omega | (simp; done) | (simp; omega) | (simp [maxLen]; done) | (simp [maxLen]; omega)) gN2) ?_
                   rintro v3 w3 ⟨gO3, gG3, gB3⟩
                   have gBel3 : Below W.heap.size W w3 := Below.grown gBel2 gG3 gN2 (fun k hk => (gO2.blk hk).1)))
              all_goals
                rw [List.nil_append, List.append_assoc] at gO3
                have hne : ∃ g cap, v3 = .slice (some ⟨g, 0, none⟩) (T1 ++ ([(⟨x1, x2, x3, x4, x5, x6, x7⟩ : Tr)] ++ T2)).length cap := by
                  obtain ⟨A9, c9, e9, hS9⟩ := gO3.sl
                  obtain ⟨b9, o9, h9, _⟩ := hS9.cells (by simp)
                  subst h9
                  obtain ⟨⟨_, h1⟩, _⟩ := gO3
                  rcases h1 with ⟨e, _⟩ | ⟨g, cap, cur, e, _⟩
                  · rw [e] at e9; cases e9
                  · exact ⟨g, cap, e⟩
                obtain ⟨g9, c9, rfl⟩ := hne
                obtain ⟨A8, c8, e8, hS8⟩ := gO3.sl
                simp only [Value.slice.injEq] at e8
                obtain ⟨rfl, _, rfl⟩ := e8
                have HS8 := hide hS8
                have HB8 := hide (kcall HB3.out gBel3)
                clear gO gG gB gO2 gG2 gB2 gO3 gG3 gB3 gT2 gBel gBel2 gBel3 hS8 u0 u1 u2 u3 u4 u5 u6 HT1 HT2 hT1l hT2l
                generalize T1 ++ ([(⟨x1, x2, x3, x4, x5, x6, x7⟩ : Tr)] ++ T2) = TT at *
                go_wp2
                all_goals
                  go_roundw
                  case rel => exact ⟨k + 1, TT, g9, c9, by omega, by go_num, rfl, by rw [HLen3.out]; omega, HQ3, HS8, HB8⟩
                  case measure => simp [nI]; omega
            · cases hA
              simp only [Nat.zero_add] at d1
              go_wp2_with fail
              refine wp_still_all (by kernel_rfl) (by kernel_rfl) ?_
              repeat ((with_reducible refine wpStill_step (fun K hK => ?_)); go_simp; (try go_bits); (with_reducible refine hK _ ?_); clear hK K)
              (with_reducible refine wpStill_nil ?_)
              clear e0 e1 e2 e3 e4 e5 e6 d1
              go_wp2_with fail
              generalize wn.drew = W at *
              have i1 : (0 : Int) ≤ (k : Int) := by omega
              go_region_law (first
                | (refine step_append (v := .slice (some ⟨_, 0, none⟩) 0 0) (u := .slice (some ⟨g, 0, none⟩) j cp) rfl (.tmp 72) (.tmp 75) 23 rfl rfl rfl (run_ext_tr (base := W.heap.size) (l1 := []) (l2 := T1) Try.underlying23 HI.out hz0 hz1 hz2 rfl (by first | exact (OwnL.fresh' (by simp) (by omega)).drew | exact ((OwnL.fresh' (by simp) (by omega)).alloc _).drew) hT1l (by first | exact (HT1.out.alloc _).drew | exact ((HT1.out.alloc _).alloc _).drew) (by first | omega | (simp; done) | (simp; omega) | (simp [maxLen]; done) | (simp [maxLen]; omega)) (by first | omega | (simp; done) | (simp; omega) | (simp [maxLen]; done) | (simp [maxLen]; omega)) (by first | omega | (simp; done) | (simp; omega) | (simp [maxLen]; done) | (simp [maxLen]; omega))) ?_
                   rintro v' w' ⟨gO, gG, gB⟩
                   have gBel : Below W.heap.size W w' := Below.grown (by first | exact (kalloc (Below.refl _ _) _).drew | exact (kalloc (kalloc (Below.refl _ _) _) _).drew) gG (by first | omega | (simp; done) | (simp; omega) | (simp [maxLen]; done) | (simp [maxLen]; omega)) (fun k hk => by simp [Value.ownBlock] at hk; omega)
                   have gN : W.heap.size ≤ w'.heap.size := gBel.size
                   have f0 := (gBel.cell (p := ⟨gl, off + k * 7, none⟩) hgd).trans u0
                   have f1 := (gBel.cell (p := ⟨gl, off + k * 7 + 1, none⟩) hgd).trans u1
                   have f2 := (gBel.cell (p := ⟨gl, off + k * 7 + 2, none⟩) hgd).trans u2
                   have f3 := (gBel.cell (p := ⟨gl, off + k * 7 + 3, none⟩) hgd).trans u3
                   have f4 := (gBel.cell (p := ⟨gl, off + k * 7 + 4, none⟩) hgd).trans u4
                   have f5 := (gBel.cell (p := ⟨gl, off + k * 7 + 5, none⟩) hgd).trans u5
                   have f6 := (gBel.cell (p := ⟨gl, off + k * 7 + 6, none⟩) hgd).trans u6
                   try (have xB := Blk.grown (b := W.heap.size + 1) (cs := #[.int .i64 x1, .int .i64 x2, .int .i64 x3, .int .i64 x4, .int .i64 x5, .int .i64 x6, .int .i64 x7]) (ty := 40) (Blk.drew (Blk.new' (by simp))) gG (by simp [Value.ownBlock]))
                   try (have xB := Blk.grown (b := W.heap.size) (cs := #[.int .i64 x1, .int .i64 x2, .int .i64 x3, .int .i64 x4, .int .i64 x5, .int .i64 x6, .int .i64 x7]) (ty := 40) (Blk.drew (Blk.alloc (Blk.new' (by simp)) _)) gG (by simp [Value.ownBlock])))
                | (refine step_append (v := v') (u := .slice (some ⟨_, 0, none⟩) 1 1) rfl (.tmp 76) (.tmp 81) 23 rfl rfl rfl (run_ext_tr (base := W.heap.size) (l1 := [] ++ T1) (l2 := [⟨x1, x2, x3, x4, x5, x6, x7⟩]) Try.underlying23 HI.out hz0 hz1 hz2 rfl (by first | exact gO | exact gO.alloc _) rfl (by first | exact Sl.one xB rfl rfl (by decide) (by decide) | exact Sl.one (Blk.new' rfl) rfl rfl (by decide) (by decide)) (by first | omega | (simp; done) | (simp; omega) | (simp [maxLen]; done) | (simp [maxLen]; omega)) (by first | omega | (simp; done) | (simp; omega) | (simp [maxLen]; done) | (simp [maxLen]; omega)) (by first | exact gN | exact Nat.le_trans gN (by simp))) ?_
                   rintro v2 w2 ⟨gO2, gG2, gB2⟩
                   have gBel2 : Below W.heap.size W w2 := Below.grown (by first | exact gBel | exact gBel.alloc gN _) gG2 (by first | exact gN | exact Nat.le_trans gN (by simp)) (fun k hk => (gO.blk hk).1)
                   have gN2 := gBel2.size
                   have gT2 := HT2.out.bel gBel2)
                | (refine step_append (v := v2) (u := .slice (if cp = j then some ⟨g, 0, none⟩ else some ⟨g, j * 7, none⟩) (st.length - j) (cp - j)) rfl (.tmp 82) (.tmp 85) 23 rfl rfl rfl (run_ext_tr (base := W.heap.size) (l1 := [] ++ T1 ++ [⟨x1, x2, x3, x4, x5, x6, x7⟩]) (l2 := T2) Try.underlying23 HI.out hz0 hz1 hz2 rfl gO2 hT2l gT2 (by first | omega | (simp; done) | (simp; omega) | (simp [maxLen]; done) | (simp [maxLen]; omega)) (by first | omega | (simp; done) | (simp; omega) | (simp [maxLen]; done) | (simp [maxLen]; omega)) gN2) ?_
                   rintro v3 w3 ⟨gO3, gG3, gB3⟩
                   have gBel3 : Below W.heap.size W w3 := Below.grown gBel2 gG3 gN2 (fun k hk => (gO2.blk hk).1)))
              all_goals
                rw [List.nil_append, List.append_assoc] at gO3
                have hne : ∃ g cap, v3 = .slice (some ⟨g, 0, none⟩) (T1 ++ ([(⟨x1, x2, x3, x4, x5, x6, x7⟩ : Tr)] ++ T2)).length cap := by
                  obtain ⟨A9, c9, e9, hS9⟩ := gO3.sl
                  obtain ⟨b9, o9, h9, _⟩ := hS9.cells (by simp)
                  subst h9
                  obtain ⟨⟨_, h1⟩, _⟩ := gO3
                  rcases h1 with ⟨e, _⟩ | ⟨g, cap, cur, e, _⟩
                  · rw [e] at e9; cases e9
                  · exact ⟨g, cap, e⟩
                obtain ⟨g9, c9, rfl⟩ := hne
                obtain ⟨A8, c8, e8, hS8⟩ := gO3.sl
                simp only [Value.slice.injEq] at e8
                obtain ⟨rfl, _, rfl⟩ := e8
                have HS8 := hide hS8
                have HB8 := hide (kcall HB3.out gBel3)
                clear gO gG gB gO2 gG2 gB2 gO3 gG3 gB3 gT2 gBel gBel2 gBel3 hS8 u0 u1 u2 u3 u4 u5 u6 HT1 HT2 hT1l hT2l
                generalize T1 ++ ([(⟨x1, x2, x3, x4, x5, x6, x7⟩ : Tr)] ++ T2) = TT at *
                go_wp2
                all_goals
                  go_roundw
                  case rel => exact ⟨k + 1, TT, g9, c9, by omega, by go_num, rfl, by rw [HLen3.out]; omega, HQ3, HS8, HB8⟩
                  case measure => simp [nI]; omega
    · obtain rfl : k = l.length := by omega
      have hq := HQ.out
      rw [List.drop_length] at hq
      have hSt : S = st := hq
      clear hq HQ
      subst hSt
      obtain ⟨j0, hj, hj0, hj1, hj2⟩ := info_parts Try_info26
      have HJ := hide hj
      have HSW := hide ((HS.out.bel HB.out).alloc (.cells #[] 26))
      have HV0 := hide (view_self HP.out.2.1)
      clear hj
      go_wp2_with (at_builtin; refine wpList_append rfl (.tmp 87) (.tmp 88) 22 rfl rfl rfl (run_ext_bu (base := wr.heap.size) (l1 := []) (l2 := b) Try.underlying22 HJ.out hj0 hj1 hj2 rfl (OwnL.fresh' (by simp) (Nat.le_refl _)) rfl HSW.out ?_ ?_ ?_) ?_)
      · simp only [List.length_nil, maxLen]; omega
      · simp only [List.length_nil]; omega
      · first | exact Nat.le_refl _ | (simp; done) | skip
      · intro v' w' hO hg _
        have hb3 : Below wr.heap.size wr w' := Below.grown (kalloc (Below.refl _ _) (.cells #[] 26)) hg (by first | exact Nat.le_refl _ | simp) (fun k hk => by simp [Value.ownBlock] at hk; omega)
        have HB3 := hide (kcall HB.out hb3)
        have HO3 := hide (HO.out.bel hb3)
        obtain ⟨A9, c9, rfl, hS9⟩ := hO.sl
        have HS9 := hide (show Sl buC 5 w' A9 c9 (viewB b (ofB b)) by rw [HV0.out]; exact hS9)
        have hvl : ∀ p, (viewB b p).length = b.length := view_len b
        have HVL := hide hvl
        clear hO hg hb3 hS9 HSW HB HO hvl
        go_wp2
        go_loopw [14, 15] (fun v i wr => ∃ (k : Nat) (p : Pu) (A9 : Option Addr) (c9 : Nat), k ≤ S.length ∧ i = .int .i64 k ∧ v = .slice A9 b.length c9 ∧ Hid (Sl buC 5 wr A9 c9 (viewB b p)) ∧ Hid (okP p) ∧ Hid (S.foldl perf (ofB b) = (S.drop k).foldl perf p) ∧ Hid (Sl trC 7 wr (some ⟨g, 0, none⟩) cp S) ∧ Hid (Below w.heap.size w wr)) (fun _ i _ => S.length - (nI i).toNat)
        case atStart => exact ⟨0, ofB b, A9, c9, Nat.zero_le _, rfl, rfl, HS9, okP_of HP.out.1, rfl, HO3, HB3⟩
        case round =>
          obtain ⟨k, p, A8, c8, hk, rfl, rfl, HV, HOK, HQ, HO, HB⟩ := hrel
          by_cases hlt : k < S.length
          · obtain ⟨x, gs, os, hx, hdr, hA, hgs, c0, c1, c2, c3, c4, c5, c6⟩ := Sl.tr_at HO.out hlt
            cases hA
            simp only [Nat.zero_add] at c0 c1 c2 c3 c4 c5 c6
            have hxl := HX.out x (List.mem_of_getElem? hx)
            obtain ⟨r1, r2, r3, rs, rm1, rm2⟩ := rightT_parts (HP.out.2.2.1 x hxl)
            have KP := perform55 A8 c8 b p x wr HP.out.2.1 HV.out r1 r2 r3 rs ⟨rm1, rm2⟩ HOK.out hbl
            rw [HVL.out] at KP
            have HKP := hide KP
            have HOK2 := hide (okP_perf HOK.out rm1)
            have hq := HQ.out
            rw [hdr, List.foldl_cons] at hq
            have HQ2 := hide hq
            have HVL2 := hide (HVL.out (perf p x))
            generalize perf p x = p' at *
            obtain ⟨x1, x2, x3, x4, x5, x6, x7⟩ := x
            simp only [trV, trC] at *
            clear KP hq HQ hx hdr hxl r1 r2 r3 rs rm1 rm2 HOK HV
            go_wp2_with fail
            refine HKP.out.mono ?_
            rintro e w9 ⟨A7, c7, rfl, hV7, hb7⟩
            have HV7 := hide hV7
            have HB7 := hide (kcall HB.out hb7)
            have HO7 := hide (HO.out.bel hb7)
            rw [HVL2.out]
            clear hV7 hb7 c0 c1 c2 c3 c4 c5 c6 HKP
            go_wp2
            go_roundw
            case rel => exact ⟨k + 1, p', A7, c7, by omega, by go_num, rfl, HV7, HOK2, HQ2, HO7, HB7⟩
            case measure => simp [nI]; omega
          · obtain rfl : k = S.length := by omega
            have hq := HQ.out
            rw [List.drop_length] at hq
            have HL9 := hide (show L = viewB b p by rw [HF.out, hq]; rfl)
            have HLL := hide (show L.length = b.length by rw [HL9.out]; exact HVL.out p)
            clear hq HQ
            go_wp2
            exact bodyPost_ret (v := .tuple #[.slice A8 b.length c8, .int .i64 0]) (by simp [results, Try.results21, go_sem]) rfl ⟨A8, c8, by rw [HLL.out], by rw [HL9.out]; exact HV.out, HB.out⟩
theorem standing21 (A : Option Addr) (c : Nat) (b : List Bu) (B : Option Addr) (d : Nat) (l : List Tr) (at_ known : Int) (w : World) (hS : Sl buC 5 w A c b) (hT : Sl trC 7 w B d l) :
    Calls Try.prog 21 #[.slice A b.length c, .slice B l.length d, .int .i64 at_, .int .i64 known] w (SlE buC 5 (standL b l at_ known) (standE b l at_ known) w) := by
  by_cases hz : chk 400 b l = 0
  · rcases Bool.eq_false_or_eq_true (argA at_ known) with ha | ha
    · obtain ⟨e1, e2⟩ := stand_ok hz ha
      rw [e1, e2]; exact standing21_good A c b B d l at_ known w hS hT hz ha
    · obtain ⟨e1, e2⟩ := stand_arg hz ha
      rw [e1, e2]; exact standing21_arg A c b B d l at_ known w hS hT hz ha
  · obtain ⟨e1, e2⟩ := stand_bad (at_ := at_) (known := known) hz
    rw [e1, e2]; exact standing21_bad A c b B d l at_ known w hS hT hz
end Go.Proofs.Ytklndmnhhakmiaa
