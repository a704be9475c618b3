/-
  budgets: paths, in the program and in the reference.
  budgets: the reference performs a trade.
  budgets: the reference's Standing.
  budgets: the statements' helpers.
  The laws' arguments: budgets; trades; one of each.
  budgets: what the statements say, plainly.
-/
import Derived.Test.YtnngemgfochodaaGreatTM4
import Derived.Test.YtnngemgfochodaaGreatLift6
import Derived.Test.YtnngemgfochodaaGreatLift5
import Derived.Test.YtnngemgfochodaaGreatRows
namespace Go.Proofs.YtnngemgfochodaaGreat
open Go.RowKit Go.Mine Go.Mine.B
attribute [local go_sem] Oper.semAt_some
def pathR (x : Bu) (s : Int) : Int × Int := if rightB x = true then (if inR s 0 3 = true then (path x.q s, 0) else (0, 1)) else (0, 400)
/-- of the first k stages -/
def psum (q : Q) (k : Nat) : Int := if k = 0 then 0 else path q ((k : Int) - 1)
theorem psum_next (q : Q) {k : Nat} (hk : k < 4) : psum q (k + 1) = psum q k + qg q (k : Int) := by
  have h : k = 0 ∨ k = 1 ∨ k = 2 ∨ k = 3 := by omega
  rcases h with rfl | rfl | rfl | rfl <;> simp [psum, path, qg]
theorem psum_ok {q : Q} (h : okQ q) (k : Nat) : 0 ≤ psum q k ∧ psum q k ≤ 4294967296 := by
  unfold psum
  split
  · omega
  · exact path_ok h _
theorem buC_get (x : Bu) (k : Nat) (hk : k < 4) : (buC x).toArray[1 + k]? = some (.int .i64 (qg x.q (k : Int))) := by
  have h : k = 0 ∨ k = 1 ∨ k = 2 ∨ k = 3 := by omega
  rcases h with rfl | rfl | rfl | rfl <;> rfl
set_option maxHeartbeats 2000000 in
theorem path16 (x : Bu) (s : Int) (w : World) : Calls Tryz.prog 4 #[buV x, .int .i64 s] w fun e w' => e = .returned (.tuple #[.int .i64 (pathR x s).1, .int .i64 (pathR x s).2]) ∧ Below w.heap.size w w' := by
  have K := hide (right33 x (w.alloc (.cells (buC x).toArray 30)))
  have KW := hide (fun w => within34 s 0 3 w)
  have HE := hide (show pathR x s = if rightB x = true then (if inR s 0 3 = true then (path x.q s, 0) else (0, 1)) else (0, 400) from rfl)
  have HR := hide (fun h : rightB x = true => (rightB_ok h).1)
  have XB := Blk.new w (buC x).toArray 30
  generalize hR : pathR x s = R at HE ⊢
  clear hR
  generalize rightB x = r at *
  have hst : inR s 0 3 = true → ∃ n : Nat, s = (n : Int) ∧ n < 4 := fun h => by obtain ⟨h1, h2⟩ := inR_iff.1 h; exact ⟨s.toNat, by omega, by omega⟩
  generalize inR s 0 3 = t at *
  have HB0 := hide (kalloc (Below.refl w.heap.size w) (.cells (buC x).toArray 30))
  cases r
  · have HE := hide (show R = (0, 400) from HE.out)
    simp only [buV, buC] at *
    clear XB hst
    go_enter Tryz.func4, Tryz.ntmps4
    go_wp2_with fail
    refine K.out.mono ?_
    rintro e w1 ⟨rfl, hb⟩
    have HB := hide (kcall HB0.out hb)
    clear hb
    go_wp2
    exact bodyPost_ret (v := .tuple #[.int .i64 0, .int .i64 400]) (by simp [results, Tryz.results4, go_sem]) rfl ⟨by first | (rw [HE.out]; done) | (rw [HE.out]; simp), HB.out⟩
  · cases t
    · have HE := hide (show R = (0, 1) from HE.out)
      simp only [buV, buC] at *
      clear XB hst
      go_enter Tryz.func4, Tryz.ntmps4
      go_wp2_with fail
      refine K.out.mono ?_
      rintro e w1 ⟨rfl, hb⟩
      have HB := hide (kcall HB0.out hb)
      clear hb
      go_wp2_with (go_at_call 14; refine (KW.out _).mono ?_; rintro e w' ⟨rfl, rfl⟩)
      exact bodyPost_ret (v := .tuple #[.int .i64 0, .int .i64 1]) (by simp [results, Tryz.results4, go_sem]) rfl ⟨by first | (rw [HE.out]; done) | (rw [HE.out]; simp), HB.out⟩
    · obtain ⟨n, rfl, hn⟩ := hst rfl
      have HE := hide (show R = (path x.q (n : Int), 0) from HE.out)
      have HQ := hide (psum_ok (HR.out rfl))
      have HP := hide (show path x.q (n : Int) = psum x.q (n + 1) by unfold psum; rw [if_neg (by omega), show ((n + 1 : Nat) : Int) - 1 = (n : Int) by omega])
      have HC := hide (fun k hk => buC_get x k hk)
      have HN := hide (fun k (hk : k < 4) => psum_next x.q hk)
      simp only [buV, buC] at *
      go_enter Tryz.func4, Tryz.ntmps4
      go_wp2_with fail
      generalize hw0 : w.alloc (.cells #[.int .i64 x.lang, .int .i64 x.q.1, .int .i64 x.q.2.1, .int .i64 x.q.2.2.1, .int .i64 x.q.2.2.2] 30) = w0 at *
      refine K.out.mono ?_
      rintro e w1 ⟨rfl, hb⟩
      have HB := hide (kcall HB0.out hb)
      have X1 := hide (XB.bel hb)
      clear hb hw0 XB K HB0
      have n1 : (n : Int) + 1 ≤ 4 := by omega
      have n0 : (0 : Int) ≤ (n : Int) + 1 := by omega
      have nw : IntKind.i64.wrap ((n : Int) + 1) = (n : Int) + 1 := by rw [IntKind.wrap_i64]; omega
      have nt : ((n : Int) + 1).toNat = n + 1 := by omega
      have hxl := X1.out.lt
      go_wp2_with (go_at_call 14; refine (KW.out _).mono ?_; rintro e w' ⟨rfl, rfl⟩)
      go_loop [4, 7, 19] (fun v _ i => ∃ k : Nat, k ≤ n + 1 ∧ i = .int .i64 k ∧ v = .int .i64 (psum x.q k)) (fun _ _ i => n + 1 - (nI i).toNat)
      case atStart => exact ⟨0, Nat.zero_le _, rfl, rfl⟩
      case round =>
        obtain ⟨k, hk, rfl, rfl⟩ := hrel
        by_cases hlt : k < n + 1
        · have c1 := X1.out.cell (1 + k) (HC.out k (by omega))
          have hk4 : k < 4 := by omega
          have HN2 := hide (HN.out k hk4)
          have b1 := HQ.out k
          have b2 := HQ.out (k + 1)
          rw [HN2.out] at b2
          generalize hps : psum x.q k = v at *
          generalize hqg : qg x.q (k : Int) = u at *
          have hw2 : IntKind.i64.wrap (v + u) = v + u := by rw [IntKind.wrap_i64]; omega
          have hltz : (k : Int) < (n : Int) + 1 := by omega
          have HV := hide (And.intro hps hqg)
          have hb12 := hide (And.intro b1 b2)
          clear b1 b2 hps hqg
          go_wp2
          go_round
          case rel => exact ⟨k + 1, by omega, by go_num, by rw [HN2.out]⟩
          case measure => simp [nI]; omega
        · obtain rfl : k = n + 1 := by omega
          have hltz : ¬ ((n + 1 : Nat) : Int) < (n : Int) + 1 := by omega
          have HE := hide (HE.out.trans (by rw [HP.out]))
          generalize psum x.q (n + 1) = v at *
          go_wp2
          exact bodyPost_ret (v := .tuple #[.int .i64 v, .int .i64 0]) (by simp [results, Tryz.results4, go_sem]) rfl ⟨by first | (rw [HE.out]; done) | (rw [HE.out]; simp), HB.out⟩
end Go.Proofs.YtnngemgfochodaaGreat
namespace Go.Proofs.YtnngemgfochodaaGreat
open Go.RowKit Go.Mine Go.Mine.B Go.Sort Go.Shelf
attribute [local go_sem] Oper.semAt_some
theorem flat_set {α : Type} {f : α → List Value} {sz : Nat} : ∀ {l : List α} {k j : Nat} {y y' : α} {u : Value}, (∀ x ∈ l, (f x).length = sz) → l[k]? = some y → j < sz → f y' = (f y).set j u → (l.set k y').flatMap f = (l.flatMap f).set (k * sz + j) u
  | [], k, j, y, y', u, _, hk, _, _ => by simp at hk
  | z :: l, 0, j, y, y', u, hs, hk, hj, hf => by
    simp at hk; subst hk
    have hz := hs z (by simp)
    simp only [List.set_cons_zero, List.flatMap_cons]
    rw [Nat.zero_mul, Nat.zero_add, List.set_append_left _ _ (by omega), hf]
  | z :: l, k + 1, j, y, y', u, hs, hk, hj, hf => by
    have hz := hs z (by simp)
    simp only [List.set_cons_succ, List.flatMap_cons]
    rw [flat_set (fun x hx => hs x (by simp [hx])) (by simpa using hk) hj hf, List.set_append_right _ _ (by rw [hz, Nat.succ_mul]; omega), hz]
    congr 2
    rw [Nat.succ_mul]; omega
/-- an element of an own row: its cells; what stands when one of them is turned -/
theorem own_at {α : Type} {f : α → List Value} {sz : Nat} {e : TypeId} {w : World} {base : Nat} {v : Value} {l : List α} (h : OwnL f sz e w base v l) {k : Nat} {y : α} (hk : l[k]? = some y) :
    ∃ g cap, v = .slice (some ⟨g, 0, none⟩) l.length cap ∧ base ≤ g ∧ g < w.heap.size ∧ l.length ≤ cap ∧ cap ≤ 9223372036854775807 ∧ (∀ j, w.frozen? ⟨g, j, none⟩ = false) ∧ (∀ j u, (f y)[j]? = some u → w.cell? ⟨g, k * sz + j, none⟩ = some u) ∧
      ∀ (j : Nat) (u : Value) (y' : α) (w' : World), w'.heap[g]? = (w.setCell ⟨g, k * sz + j, none⟩ u).heap[g]? → j < sz → f y' = (f y).set j u → OwnL f sz e w' base v (l.set k y') := by
  have hkl : k < l.length := (List.getElem?_eq_some_iff.1 hk).1
  obtain ⟨⟨hl, h1⟩, hs⟩ := h
  rcases h1 with ⟨rfl, hn⟩ | ⟨g, cap, cur, rfl, hg, hh, hn, hc, hz, ht⟩
  · omega
  · have hsy := hs y (List.mem_of_getElem? hk)
    refine ⟨g, cap, rfl, hg, (Array.getElem?_eq_some_iff.1 hh).1, hn, by simpa [maxLen] using hc, fun j => by simp [World.frozen?, hh], fun j u hu => ?_, fun j u y' w' hw' hj hf => ?_⟩
    · have hju : j < sz := by rw [← hsy]; exact (List.getElem?_eq_some_iff.1 hu).1
      have hfg := flat_get f sz l k j y u hs hk hu
      have hlt : k * sz + j < l.length * sz := by have := Nat.mul_le_mul_right sz (show k + 1 ≤ l.length from hkl); rw [Nat.succ_mul] at this; omega
      rw [← ht, List.getElem?_take_of_lt hlt] at hfg
      simp only [World.cell?, hh]
      simpa using hfg
    · rw [heap_set_at hh] at hw'
      have hfl : ((l.set k y').flatMap f).length = l.length * sz := by rw [flat_set hs hk hj hf]; simpa using hl
      refine ⟨⟨by rw [hfl]; simp, .inr ⟨g, cap, _, by simp, hg, hw', by simpa using hn, hc, by simpa using hz, ?_⟩⟩, ?_⟩
      · rw [flat_set hs hk hj hf, ← ht, Array.toList_setIfInBounds, List.length_set, List.take_set]
      · intro x hx
        rcases List.mem_or_eq_of_mem_set hx with hx | rfl
        · exact hs x hx
        · rw [hf]; simp [hsy]
/-- the place of a language -/
theorem ixGo_at {α : Type} {p : α → Bool} : ∀ {l : List α} {n : Nat}, l.any p = true → ∃ (k : Nat) (y : α), ixGo p l n = ((n + k : Nat) : Int) ∧ l[k]? = some y ∧ p y = true
  | [], n, h => by simp at h
  | x :: l, n, h => by
    by_cases hx : p x = true
    · exact ⟨0, x, by simp [ixGo, hx], rfl, hx⟩
    · have h2 : l.any p = true := by simpa [List.any_cons, hx] using h
      obtain ⟨k, y, a, b, c⟩ := ixGo_at (n := n + 1) h2
      refine ⟨k + 1, y, ?_, by simpa using b, c⟩
      rw [show ixGo p (x :: l) n = ixGo p l (n + 1) from if_neg hx, a]; congr 1; omega
/-- set where a language is -/
theorem map_set {b : List Bu} (h : b.Pairwise fun x y => x.lang < y.lang) (g : Bu → Bu) {k : Nat} {y : Bu} (hk : b[k]? = some y) (z : Bu) : (b.map g).set k z = b.map fun x => if x.lang = y.lang then z else g x := by
  apply List.ext_getElem?
  intro i
  rw [List.getElem?_set, List.getElem?_map, List.getElem?_map]
  have hkl : k < b.length := (List.getElem?_eq_some_iff.1 hk).1
  by_cases hi : k = i
  · subst hi
    rw [if_pos rfl, if_pos (by simpa using hkl), hk]
    simp
  · rw [if_neg hi]
    rcases hb : b[i]? with _ | x
    · rfl
    · have hne : x.lang ≠ y.lang := by
        obtain ⟨hil, rfl⟩ := List.getElem?_eq_some_iff.1 hb
        obtain ⟨_, rfl⟩ := List.getElem?_eq_some_iff.1 hk
        rcases Nat.lt_or_ge i k with h1 | h1
        · have := List.pairwise_iff_getElem.1 h i k hil hkl h1; omega
        · have := List.pairwise_iff_getElem.1 h k i hkl hil (by omega); omega
      simp [hne]
theorem perf_view {b : List Bu} (hb : b.Pairwise fun x y => x.lang < y.lang) (p : Pu) {x : Tr} {i k : Nat} {yf yt : Bu} (hi : b[i]? = some yf) (hf : yf.lang = x.fr) (hk : b[k]? = some yt) (ht : yt.lang = x.to) (_hne : x.fr ≠ x.to)
    (hc : ¬ (qg ((p x.fr).getD q0) x.stg < x.ms ∨ most < qg ((p x.to).getD q0) x.stg + x.ms)) :
    ((viewB b p).set i ⟨x.fr, qs ((p x.fr).getD q0) x.stg (qg ((p x.fr).getD q0) x.stg - x.ms)⟩).set k ⟨x.to, qs ((p x.to).getD q0) x.stg (qg ((p x.to).getD q0) x.stg + x.ms)⟩ = viewB b (perf p x) := by
  unfold viewB
  rw [map_set hb _ hi, map_set hb _ hk]
  refine List.map_congr_left fun y _ => ?_
  rw [perf_at, if_neg hc, hf, ht]
  by_cases h1 : y.lang = x.to
  · rw [if_pos h1, h1, B.upd_same]; rfl
  · rw [if_neg h1, B.upd_other _ _ h1]
    by_cases h2 : y.lang = x.fr
    · rw [if_pos h2, h2, B.upd_same]; rfl
    · rw [if_neg h2, B.upd_other _ _ h2]
theorem view_at {b : List Bu} (p : Pu) {i : Nat} {y : Bu} (h : (viewB b p)[i]? = some y) : ∃ z, b[i]? = some z ∧ z.lang = y.lang ∧ y.q = (p y.lang).getD q0 := by
  unfold viewB at h
  rw [List.getElem?_map] at h
  obtain ⟨z, hz, rfl⟩ := Option.map_eq_some_iff.1 h
  exact ⟨z, hz, rfl, rfl⟩
theorem buC_set (x : Bu) (s : Nat) (hs : s < 4) (v : Int) : buC ⟨x.lang, qs x.q s v⟩ = (buC x).set (1 + s) (.int .i64 v) := by
  have h : s = 0 ∨ s = 1 ∨ s = 2 ∨ s = 3 := by omega
  rcases h with rfl | rfl | rfl | rfl <;> rfl
theorem buC_get' (x : Bu) (k : Nat) (hk : k < 4) : (buC x)[1 + k]? = some (.int .i64 (qg x.q (k : Int))) := by
  have h : k = 0 ∨ k = 1 ∨ k = 2 ∨ k = 3 := by omega
  rcases h with rfl | rfl | rfl | rfl <;> rfl
end Go.Proofs.YtnngemgfochodaaGreat
namespace Go.Proofs.YtnngemgfochodaaGreat
open Go.RowKit Go.Mine Go.Mine.B Go.Sort Go.Shelf
attribute [local go_sem] Oper.semAt_some
theorem ins_split : ∀ {l : List Tr} {x : Tr} {k : Nat}, (∀ y ∈ l.take k, y.at_ ≤ x.at_) → (k = l.length ∨ ∃ y, l[k]? = some y ∧ ¬ y.at_ ≤ x.at_) → ins l x = l.take k ++ ([x] ++ l.drop k)
  | [], x, k, _, _ => by simp [ins]
  | y :: l, x, 0, _, h => by
    rcases h with h | ⟨z, hz, hn⟩
    · simp at h
    · simp at hz; subst hz
      unfold ins
      rw [if_neg hn]; rfl
  | y :: l, x, k + 1, h1, h2 => by
    unfold ins
    rw [if_pos (h1 y (by simp))]
    rw [ins_split (l := l) (k := k) (fun z hz => h1 z (by simp [hz])) (by
      rcases h2 with h | ⟨z, hz, hn⟩
      · exact .inl (by simpa using h)
      · exact .inr ⟨z, by simpa using hz, hn⟩)]
    rfl
theorem ins_len (l : List Tr) (x : Tr) : (ins l x).length = l.length + 1 := by rw [(ins_perm l x).length_eq]; rfl
theorem tr_take {w : World} {A : Option Addr} {c : Nat} {l : List Tr} (h : Sl trC 7 w A c l) (k : Nat) : Sl trC 7 w A c (l.take k) := by
  refine ⟨Nat.le_trans (List.length_take_le' _ _) h.le, h.max, fun _ _ => rfl, fun hn => ?_⟩
  obtain ⟨b, off, e, hb, hc⟩ := h.cells (by rintro rfl; simp at hn)
  refine ⟨b, off, e, hb, fun i v hv => hc i v ?_⟩
  have e1 : l.flatMap trC = (l.take k).flatMap trC ++ (l.drop k).flatMap trC := by rw [← List.flatMap_append, List.take_append_drop]
  rw [e1, List.getElem?_append_left (List.getElem?_eq_some_iff.1 hv).1]; exact hv
theorem tr_part {w : World} {b off c c' : Nat} {l : List Tr} (h : Sl trC 7 w (some ⟨b, off, none⟩) c l) (k : Nat) (hc : l.length - k ≤ c') (hc2 : c' ≤ 9223372036854775807) : Sl trC 7 w (some ⟨b, off + k * 7, none⟩) c' (l.drop k) := by
  refine ⟨by simpa using hc, hc2, fun _ _ => rfl, fun hn => ?_⟩
  have hkl : k < l.length := by
    rcases Nat.lt_or_ge k l.length with h' | h'
    · exact h'
    · exact absurd (List.drop_of_length_le h') hn
  obtain ⟨b', off', e, hb, hcell⟩ := h.cells (by rintro rfl; simp at hn)
  simp only [Option.some.injEq, Addr.mk.injEq, and_true] at e
  obtain ⟨rfl, rfl⟩ := e
  refine ⟨b, off + k * 7, rfl, hb, fun i v hv => ?_⟩
  rw [Nat.add_assoc]
  refine hcell (k * 7 + i) v ?_
  have e1 : l.flatMap trC = (l.take k).flatMap trC ++ (l.drop k).flatMap trC := by rw [← List.flatMap_append, List.take_append_drop]
  have hlen : ((l.take k).flatMap trC).length = k * 7 := by rw [flat_length trC 7 _ (fun x _ => trC_len x)]; simp; omega
  rw [e1, List.getElem?_append_right (by omega), hlen, Nat.add_sub_cancel_left]
  exact hv
theorem argA_parts {at_ known : Int} : argA at_ known = (inR at_ 0 1099511627775 && inR known 0 1099511627775) := rfl
end Go.Proofs.YtnngemgfochodaaGreat
namespace Go.Proofs.YtnngemgfochodaaGreat
open Go.RowKit Go.Mine Go.Mine.B Go.Sort Go.Shelf
attribute [local go_sem] Oper.semAt_some
theorem eq24 (d : Nat) (a1 a2 a3 a4 b1 b2 b3 b4 : Int) (w : World) : (Op.equalIn (d + 2) 28 (.agg #[.int .i64 a1, .int .i64 a2, .int .i64 a3, .int .i64 a4]) (.agg #[.int .i64 b1, .int .i64 b2, .int .i64 b3, .int .i64 b4])).run Tryz.prog w = .ok (a1 == b1 && (a2 == b2 && (a3 == b3 && a4 == b4))) w := by
  simp only [Op.equalIn, Sem.run_bind, run_underlying Tryz.underlying28, Result.andThen_ok, Tryz.sizeOf3]
  simp [List.range', part, go_sem]
  by_cases h1 : a1 = b1
  · by_cases h2 : a2 = b2
    · by_cases h3 : a3 = b3
      · by_cases h4 : a4 = b4
        · simp [h1, h2, h3, h4]
        · simp [h1, h2, h3, h4]
      · simp [h1, h2, h3]
    · simp [h1, h2]
  · simp [h1]
def fewB (b : List Bu) (l : List Tr) : Bool := decide (b.length ≤ 40) && (decide (l.length ≤ 40) || (decide (4096 < l.length) && decide (l.length ≤ 4200)))
def rightL (b : List Bu) (l : List Tr) (ts : List Int) : Bool := ts.all timeB && (decide (l.length ≤ 40) && decide (chk 400 b l = 0))
def twoL : List Bu := [⟨0, (5, 5, 5, 5)⟩, ⟨1, (5, 5, 5, 5)⟩]
theorem bsl_blk {α : Type} {f : α → List Value} {sz : Nat} {W : World} {b c : Nat} {ty : TypeId} {cs : Array Value} (h : Blk W b ty cs) (l : List α) (hcs : cs.toList = l.flatMap f) (hs : ∀ x ∈ l, (f x).length = sz) (hn : l.length ≤ c) (hc : c ≤ 1000) : Sl f sz W (some ⟨b, 0, none⟩) c l :=
  ⟨hn, by omega, hs, fun _ => ⟨b, 0, rfl, h.lt, fun i v hv => by
    simp only [Nat.zero_add, World.cell?, h.at_]
    rw [← Array.getElem?_toList, hcs]
    simpa using hv⟩⟩
theorem blit {α : Type} (f : α → List Value) (sz : Nat) (w : World) (ty : TypeId) (l : List α) (n : Nat) {cs : Array Value} {b : Nat} (hcs : cs.toList = l.flatMap f) (hb : w.heap.size = b) (hs : ∀ x ∈ l, (f x).length = sz) (hn : l.length = n) (hm : n ≤ 1000) : Sl f sz (w.alloc (.cells cs ty)) (some ⟨b, 0, none⟩) n l := by
  subst hb; exact bsl_blk (Blk.new w _ ty) l hcs hs (by omega) hm
end Go.Proofs.YtnngemgfochodaaGreat
namespace Go.Proofs.YtnngemgfochodaaGreat
open Go.RowKit Go.Shelf Go.Mine Go.Mine.B Go.ChangeShapes Go.WideShapes Go.ChangeAt
theorem Tryz.own : ownKnob Tryz.prog.godebug = none := by kernel_rfl
theorem Tryz.laidOut : laidOutB Tryz.prog = true := by kernel_rfl
/-- numbers of a budget are numbers -/
def BuS (x : Bu) : Prop := I64 x.lang ∧ I64 x.q.1 ∧ I64 x.q.2.1 ∧ I64 x.q.2.2.1 ∧ I64 x.q.2.2.2
def TrS (x : Tr) : Prop := I64 x.no ∧ I64 x.at_ ∧ I64 x.known ∧ I64 x.stg ∧ I64 x.fr ∧ I64 x.to ∧ I64 x.ms
theorem BuS.all {b : List Bu} (h : ∀ x ∈ b, BuS x) : buS b := fun y hy => (h y hy).1
theorem TrS.all {l : List Tr} (h : ∀ x ∈ l, TrS x) : trS l := fun y hy => ⟨(h y hy).2.2.2.2.1, (h y hy).2.2.2.2.2.1⟩
section
variable {Hh : Type} {enc : TypeId × Value → Hh} {w : World} {base b0 : Nat} {held : Bool} {r : Reach} {v : Value} {dd : DataW Hh} {ps : List MemPlace}
theorem int_of {n : Nat} {c : Value} {x : DataW Hh × List MemPlace} (h : DataW.trod enc Tryz.prog w base (fun _ => true) held n 3 [c] = some x) : ∃ z : Int, c = .int .i64 z ∧ I64 z := by
  obtain ⟨z, hz1, _, hz3⟩ := DataW.trod_int Tryz.underlying3 h
  exact ⟨z, by simpa using hz1, i64ok_of hz3⟩
set_option maxRecDepth 100000 in
theorem bu_el (cs : List Value) (n : Nat) (x : DataW Hh × List MemPlace) (hl : cs.length = 5) (h : DataW.trod enc Tryz.prog w base (fun _ => true) held n 30 cs = some x) : ∃ y, cs = buC y ∧ BuS y := by
  obtain ⟨y0, y1, m, rfl, _, h0, h1⟩ := trod_struct2 (t := 30) Tryz.underlying30 h
  match cs, hl with
  | [c0, c1, c2, c3, c4], _ =>
    have e0 : DataW.trod enc Tryz.prog w base (fun _ => true) held m 3 [c0] = some y0 := by simpa [show Tryz.prog.cellsOf 3 = 1 by kernel_rfl] using h0
    have e1 : DataW.trod enc Tryz.prog w base (fun _ => true) held m 28 [c1, c2, c3, c4] = some y1 := by simpa [show Tryz.prog.cellsOf 28 = 4 by kernel_rfl] using h1
    obtain ⟨z0, z1, z2, z3, k, _, f0, f1, f2, f3⟩ := trod_array4 Tryz.underlying28 (by kernel_rfl) e1
    obtain ⟨n0, rfl, g0⟩ := int_of e0
    obtain ⟨n1, rfl, g1⟩ := int_of f0
    obtain ⟨n2, rfl, g2⟩ := int_of f1
    obtain ⟨n3, rfl, g3⟩ := int_of f2
    obtain ⟨n4, rfl, g4⟩ := int_of f3
    exact ⟨⟨n0, (n1, n2, n3, n4)⟩, rfl, g0, g1, g2, g3, g4⟩
set_option maxRecDepth 100000 in
theorem tr_el (cs : List Value) (n : Nat) (x : DataW Hh × List MemPlace) (hl : cs.length = 7) (h : DataW.trod enc Tryz.prog w base (fun _ => true) held n 38 cs = some x) : ∃ y, cs = trC y ∧ TrS y := by
  obtain ⟨xs, m, _, rfl, _, hlen, hf⟩ := DataW.trod_struct Tryz.underlying38 h
  have c3 : Tryz.prog.cellsOf 3 = 1 := by kernel_rfl
  match cs, hl, xs, hlen with
  | [c0, c1, c2, c3', c4, c5, c6], _, [y0, y1, y2, y3, y4, y5, y6], _ =>
    obtain ⟨n0, rfl, g0⟩ := int_of (show DataW.trod enc Tryz.prog w base (fun _ => true) held m 3 [c0] = some y0 by simpa [c3] using hf 0 _ rfl)
    obtain ⟨n1, rfl, g1⟩ := int_of (show DataW.trod enc Tryz.prog w base (fun _ => true) held m 3 [c1] = some y1 by simpa [c3] using hf 1 _ rfl)
    obtain ⟨n2, rfl, g2⟩ := int_of (show DataW.trod enc Tryz.prog w base (fun _ => true) held m 3 [c2] = some y2 by simpa [c3] using hf 2 _ rfl)
    obtain ⟨n3, rfl, g3⟩ := int_of (show DataW.trod enc Tryz.prog w base (fun _ => true) held m 3 [c3'] = some y3 by simpa [c3] using hf 3 _ rfl)
    obtain ⟨n4, rfl, g4⟩ := int_of (show DataW.trod enc Tryz.prog w base (fun _ => true) held m 3 [c4] = some y4 by simpa [c3] using hf 4 _ rfl)
    obtain ⟨n5, rfl, g5⟩ := int_of (show DataW.trod enc Tryz.prog w base (fun _ => true) held m 3 [c5] = some y5 by simpa [c3] using hf 5 _ rfl)
    obtain ⟨n6, rfl, g6⟩ := int_of (show DataW.trod enc Tryz.prog w base (fun _ => true) held m 3 [c6] = some y6 by simpa [c3] using hf 6 _ rfl)
    exact ⟨⟨n0, n1, n2, n3, n4, n5, n6⟩, rfl, g0, g1, g2, g3, g4, g5, g6⟩
set_option maxRecDepth 100000 in
theorem open_bus (hv : Value.okWide Tryz.prog w r b0 22 v) (h : DataW.Trod enc Tryz.prog w base (fun _ => true) held 22 v dd ps) :
    ∃ (A : Option Addr) (c : Nat) (l : List Bu), v = .slice A l.length c ∧ Sl buC 5 w A c l ∧ (∀ x ∈ l, BuS x) :=
  open_slG (Q := BuS) Tryz.underlying22 (by kernel_rfl) (by decide) (fun _ => rfl) bu_el hv h
set_option maxRecDepth 100000 in
theorem open_trs (hv : Value.okWide Tryz.prog w r b0 23 v) (h : DataW.Trod enc Tryz.prog w base (fun _ => true) held 23 v dd ps) :
    ∃ (A : Option Addr) (c : Nat) (l : List Tr), v = .slice A l.length c ∧ Sl trC 7 w A c l ∧ (∀ x ∈ l, TrS x) :=
  open_slG (Q := TrS) Tryz.underlying23 (by kernel_rfl) (by decide) (fun _ => rfl) tr_el hv h
set_option maxRecDepth 100000 in
theorem open_bu (hv : Value.okWide Tryz.prog w r b0 30 v) (h : DataW.Trod enc Tryz.prog w base (fun _ => true) held 30 v dd ps) : ∃ x : Bu, v = buV x ∧ BuS x := by
  obtain ⟨a, rfl, ha⟩ := okWide_struct (P := Tryz.prog) Tryz.underlying30 hv
  obtain ⟨fuel, hf⟩ := h
  obtain ⟨y, hy, hs⟩ := bu_el a.toList fuel _ (by simpa [show Tryz.prog.cellsOf 30 = 5 by kernel_rfl] using ha) (by simpa [Value.cells] using hf)
  exact ⟨y, by unfold buV; rw [← hy], hs⟩
set_option maxRecDepth 100000 in
theorem open_tr (hv : Value.okWide Tryz.prog w r b0 38 v) (h : DataW.Trod enc Tryz.prog w base (fun _ => true) held 38 v dd ps) : ∃ x : Tr, v = trV x ∧ TrS x := by
  obtain ⟨a, rfl, ha⟩ := okWide_struct (P := Tryz.prog) Tryz.underlying38 hv
  obtain ⟨fuel, hf⟩ := h
  obtain ⟨y, hy, hs⟩ := tr_el a.toList fuel _ (by simpa [show Tryz.prog.cellsOf 38 = 7 by kernel_rfl] using ha) (by simpa [Value.cells] using hf)
  exact ⟨y, by unfold trV; rw [← hy], hs⟩
end
end Go.Proofs.YtnngemgfochodaaGreat
namespace Go.Proofs.YtnngemgfochodaaGreat
open Go.RowKit Go.Mine Go.Mine.B
theorem rightL_parts {b : List Bu} {l : List Tr} {ts : List Int} (h : rightL b l ts = true) : (∀ t ∈ ts, timeB t = true) ∧ l.length ≤ 40 ∧ chk 400 b l = 0 := by
  simp only [rightL, Bool.and_eq_true, List.all_eq_true, decide_eq_true_eq] at h
  exact ⟨h.1, h.2.1, h.2.2⟩
theorem argA_of {at_ known : Int} (h1 : timeB at_ = true) (h2 : timeB known = true) : argA at_ known = true := by
  unfold argA; unfold timeB at h1 h2; rw [h1, h2]; rfl
theorem chk_of {b : List Bu} {l : List Tr} (h : chkB b l = true) (hb : b.length ≤ 32) (hl : l.length ≤ 4096) : chk 400 b l = 0 := (chk_zero (by decide)).2 ⟨h, hb, hl⟩
theorem standing_len (b : List Bu) (l : List Tr) (at_ known : Int) : (standing b l at_ known).length = b.length := view_len _ _
/-- the budgets that stand, with their trades, are right -/
theorem chk_stand {b : List Bu} {l m : List Tr} (h : chk 400 b l = 0) (at_ known : Int) (hm : m.Sublist l) : chk 400 (standing b l at_ known) m = 0 := by
  obtain ⟨h1, h2, h3⟩ := chk_zero' h
  refine chk_of (chkB_view h1 hm (okP_fin h1 at_ known)) (by rw [standing_len]; exact h2) (Nat.le_trans hm.length_le h3)
theorem chk_sub {b : List Bu} {l m : List Tr} (h : chk 400 b l = 0) (hm : m.Sublist l) : chk 400 b m = 0 := by
  obtain ⟨h1, h2, h3⟩ := chk_zero' h
  exact chk_of (chkB_sub h1 hm) h2 (Nat.le_trans hm.length_le h3)
theorem stand_lang {b : List Bu} {l : List Tr} (at_ known : Int) (h : buS b) : buS (standing b l at_ known) := by
  intro y hy
  obtain ⟨z, hz, rfl⟩ := List.mem_map.1 hy
  exact h z hz
theorem trS_sub {l m : List Tr} (h : trS l) (hm : m.Sublist l) : trS m := fun x hx => h x (hm.subset hx)
/-! ### sums -/
def addS (a q : Q) : Nat → Q
  | 0 => a
  | s + 1 => qs (addS a q s) (s : Int) (qg a (s : Int) + qg q (s : Int))
theorem addS_four (a q : Q) : addS a q 4 = (a.1 + q.1, a.2.1 + q.2.1, a.2.2.1 + q.2.2.1, a.2.2.2 + q.2.2.2) := by
  simp [addS, qs, qg]
theorem addS_get (a q : Q) {s : Nat} (hs : s < 4) : qg (addS a q s) (s : Int) = qg a (s : Int) := by
  have h : s = 0 ∨ s = 1 ∨ s = 2 ∨ s = 3 := by omega
  rcases h with rfl | rfl | rfl | rfl <;> simp [addS, qs, qg]
def sumQ (b : List Bu) : Q := b.foldl (fun a y => addS a y.q 4) q0
theorem sumQ_go : ∀ (b : List Bu) (a : Q), b.foldl (fun a y => addS a y.q 4) a = (a.1 + (b.map fun y => qg y.q 0).sum, a.2.1 + (b.map fun y => qg y.q 1).sum, a.2.2.1 + (b.map fun y => qg y.q 2).sum, a.2.2.2 + (b.map fun y => qg y.q 3).sum)
  | [], a => by simp
  | y :: b, a => by
    rw [List.foldl_cons, sumQ_go b, addS_four]
    simp only [List.map_cons, List.sum_cons, Int.add_assoc]
    rfl
theorem sumQ_stand {b : List Bu} {l : List Tr} (h : chkB b l = true) (at_ known : Int) : sumQ (standing b l at_ known) = sumQ b := by
  unfold sumQ
  rw [sumQ_go, sumQ_go, fin_sum h at_ known (s := 0) ⟨by omega, by omega⟩, fin_sum h at_ known (s := 1) ⟨by omega, by omega⟩, fin_sum h at_ known (s := 2) ⟨by omega, by omega⟩, fin_sum h at_ known (s := 3) ⟨by omega, by omega⟩]
theorem sumQ_next {b : List Bu} {k : Nat} {y : Bu} (h : b[k]? = some y) : sumQ (b.take (k + 1)) = addS (sumQ (b.take k)) y.q 4 := by
  rw [take_of_get h]
  unfold sumQ
  rw [List.foldl_append]
  rfl
def okS (n : Nat) (a : Q) : Prop := (0 ≤ a.1 ∧ a.1 ≤ n * 1073741824) ∧ (0 ≤ a.2.1 ∧ a.2.1 ≤ n * 1073741824) ∧ (0 ≤ a.2.2.1 ∧ a.2.2.1 ≤ n * 1073741824) ∧ (0 ≤ a.2.2.2 ∧ a.2.2.2 ≤ n * 1073741824)
theorem okS_next {n : Nat} {a q : Q} (h : okS n a) (hq : okQ q) : okS (n + 1) (addS a q 4) := by
  rw [addS_four]
  unfold okS okQ most at *
  simp only
  omega
theorem okS_get {n : Nat} {a : Q} (h : okS n a) (s : Int) : 0 ≤ qg a s ∧ qg a s ≤ n * 1073741824 := by
  obtain ⟨h1, h2, h3, h4⟩ := h
  unfold qg
  split
  · exact h1
  · split
    · exact h2
    · split
      · exact h3
      · exact h4
/-! ### what is kept -/
def nm (n : Int) (x : Tr) : Bool := (x.fr == n) || (x.to == n)
theorem kept_at {b : List Bu} {l : List Tr} (h : chkB b l = true) (at_ known : Int) {k : Nat} {y : Bu} (hk : b[k]? = some y) :
    ∃ q, (standing b l at_ known)[k]? = some ⟨y.lang, q⟩ ∧ okQ y.q ∧ okQ q ∧ (l.any (nm y.lang) = false → y = ⟨y.lang, q⟩) := by
  have hm := List.mem_of_getElem? hk
  refine ⟨((fin b l at_ known y.lang).getD q0), ?_, (rightB_ok ((chkB_parts h).1 y hm)).1, okP_get (okP_fin h at_ known) _, fun hn => ?_⟩
  · unfold standing viewB
    rw [List.getElem?_map, hk]; rfl
  · rw [fin_other h at_ known hm (fun x hx => by
      have := (List.any_eq_false.1 hn) x hx
      simp only [nm, Bool.or_eq_true, beq_iff_eq, not_or] at this
      exact ⟨fun e => this.1 e.symm, fun e => this.2 e.symm⟩)]
    rfl
/-- a cell of a budget's stages -/
theorem bu_q {w : World} {g off c : Nat} {b : List Bu} (h : Sl buC 5 w (some ⟨g, off, none⟩) c b) {k : Nat} {y : Bu} (hy : b[k]? = some y) {s : Nat} (hs : s < 4) : w.cell? ⟨g, off + k * 5 + 1 + s, none⟩ = some (.int .i64 (qg y.q (s : Int))) := by
  obtain ⟨b1, off1, hA1, _, hcell⟩ := h.addr (by intro e; subst e; simp at hy)
  cases hA1
  have := hcell k y hy (1 + s) _ (buC_get' y s hs)
  rwa [show off + (k * 5 + (1 + s)) = off + k * 5 + 1 + s by omega] at this
/-- stages apart -/
theorem stage_at {b : List Bu} {l : List Tr} (h : chkB b l = true) (at_ known : Int) {s : Nat} (hs : s < 4) {k : Nat} {y z : Bu} (hy : (standing b l at_ known)[k]? = some y) (hz : (standing b (l.filter fun x => decide (x.stg = (s : Int))) at_ known)[k]? = some z) : qg y.q (s : Int) = qg z.q (s : Int) := by
  unfold standing viewB at hy hz
  rw [List.getElem?_map] at hy hz
  obtain ⟨u, hu, rfl⟩ := Option.map_eq_some_iff.1 hy
  rw [hu] at hz
  cases hz
  exact fin_stage h at_ known ⟨by omega, by omega⟩ u.lang
end Go.Proofs.YtnngemgfochodaaGreat
