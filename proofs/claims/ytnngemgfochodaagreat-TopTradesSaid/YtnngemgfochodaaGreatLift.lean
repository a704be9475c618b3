/-
  From a law's walk to its row: arguments opened to lists; what stands behind the call where nothing that lay before it has turned.
-/
import Derived.Test.YtnngemgfochodaaGreatBase
import Derived.ProofKit
import Derived.Deep.Slices
import Derived.Deep.Fields
import Derived.Lib.SmallJoins
namespace Go.Mine
open Go.RowKit Go.WideShapes Go.ChangeShapes Go.Deep
section
variable {H : Type} {enc : TypeId × Value → H} {P : Program}

theorem trodAll_stays (hl : laidOutB P = true) {W W' : World} {sp' : Nat → Bool} : ∀ (ts : List TypeId) (vs : List Value) (ds : List (DataW H)) (ps : List MemPlace),
    (∀ t ∈ ts, P.readableRec t = true ∧ t < P.types.size) → DataW.TrodAll enc P W 0 (fun _ => true) true ts vs ds ps → (∀ p ∈ ps, W.sameAt W' p) → (∀ p ∈ ps, sp' p.block = true) →
    DataW.TrodAll enc P W' 0 sp' true ts vs ds ps
  | [], vs, ds, ps, _, h, _, _ => by
    obtain ⟨rfl, rfl, rfl⟩ := trodAll_nil h
    exact trodAll_mk0
  | t :: ts, vs, ds, ps, hr, h, hsame, hsp => by
    obtain ⟨v, vs', d, ds', p, q, rfl, rfl, rfl, h1, h2⟩ := trodAll_cons h
    obtain ⟨r1, r2⟩ := hr t (by simp)
    exact trodAll_cons_mk (WideElems.Trod_stays hl r1 r2 h1 (fun x hx => hsame x (by simp [hx])) (fun x hx => hsp x (by simp [hx])))
      (trodAll_stays hl ts vs' ds' q (fun t ht => hr t (by simp [ht])) h2 (fun x hx => hsame x (by simp [hx])) (fun x hx => hsp x (by simp [hx])))

/-- Behind a law's call: true; the arguments read as they did. -/
theorem post_law {f : Func} {s : ChangeSpec} {apart fresh handsOn again : Bool} {W W' : World} {args : Array Value} {ds : List (DataW H)} {before : List MemPlace} {tb : TypeId}
    (hl : laidOutB P = true) (hW : DataW.Whole enc P f.params.toList s.vars apart W args.toList ds [] before)
    (hA : DataW.TrodAll enc P W 0 (fun _ => true) true f.params.toList args.toList ds before) (hv : s.vars = [])
    (hfn : s.fn H (ds ++ []) = { results := [.lit (.bool true)], args := ds }) (hrt : f.resultTypes = #[tb]) (htb : P.underlying tb = some .bool)
    (hread : ∀ t ∈ f.params.toList, P.readableRec t = true ∧ t < P.types.size) (hb : Below W.heap.size W W') :
    s.post enc P f apart fresh handsOn again W args (.bool true) W' := by
  have hlt : ∀ p ∈ before, p.block < W.heap.size := fun p hp => hW.lt p hp
  have hres : ∀ (b : Nat) (sp : Nat → Bool) (hd : Bool), DataW.TrodAll enc P W' b sp hd f.resultTypes.toList ((Value.bool true).resultList f.resultTypes.size) (s.fn H (ds ++ [])).results [] := by
    intro b sp hd
    rw [hfn, hrt]
    exact trodAll_mk1 (shut_bool htb true)
  have hargs : ∀ sp : Nat → Bool, (∀ p ∈ before, sp p.block = true) → DataW.TrodAll enc P W' 0 sp true f.params.toList args.toList (s.fn H (ds ++ [])).args before := by
    intro sp hsp
    rw [hfn]
    exact trodAll_stays hl _ _ _ _ hread hA (fun p hp => hb.same (hlt p hp)) hsp
  have hvars : ∀ sp : Nat → Bool, DataW.TrodVars enc P W' sp s.vars (s.fn H (ds ++ [])).vars [] := by
    intro sp
    rw [hfn, hv]; rfl
  have hold : ∀ p ∈ before, (fun b => decide (b < W.heap.size)) p.block = true := fun p hp => by simpa using hlt p hp
  refine ⟨ds, [], before, [], before, [], hW, hres _ _ _, hargs _ hold, hvars _, World.keptBut_mono (fun p hp => ⟨hp, ?_⟩) (hb.frame (· ∈ before)), fun _ => ?_⟩
  · exact .inr (.inl hp)
  · obtain ⟨_, _, _, _, _, hz, hn⟩ := hW
    refine ⟨fun j t r h1 h2 => ?_, _, _, ([] ++ before) ++ [], ⟨[] ++ before, [], trodAll_append (hargs _ (fun _ _ => rfl)) (hres _ _ _), hvars _, rfl, ?_, ?_⟩, ?_⟩
    · rw [hrt] at h1 h2
      match j, h1 with
      | 0, h1 =>
        obtain rfl : tb = t := by simpa using h1
        obtain rfl : Value.bool true = r := by simpa [Value.resultList] using h2
        exact okWide_bool_mk htb true
    · intro b off hp
      have hin : MemPlace.cell b off ∈ before := by simpa using hp
      rw [hb.frozen (hlt _ hin)]
      exact hz b off hin
    · intro ha
      have := hn ha
      simpa using this
    · intro p hp _
      simpa using hp
end

section
variable {H : Type} {enc : TypeId × Value → H} {P : Program} {w : World} {base : Nat} {spare : Nat → Bool} {held : Bool}

theorem flat_get' {α : Type} (f : α → List Value) (sz : Nat) (hz : 0 < sz) : ∀ (l : List α) (i : Nat) (v : Value), (∀ x ∈ l, (f x).length = sz) → (l.flatMap f)[i]? = some v → ∃ x, l[i / sz]? = some x ∧ (f x)[i % sz]? = some v
  | [], i, v, _, h => by simp at h
  | y :: l, i, v, hs, h => by
    have hy := hs y (by simp)
    rw [List.flatMap_cons] at h
    rcases Nat.lt_or_ge i sz with hlt | hge
    · rw [List.getElem?_append_left (by omega)] at h
      exact ⟨y, by rw [Nat.div_eq_of_lt hlt]; rfl, by rw [Nat.mod_eq_of_lt hlt]; exact h⟩
    · rw [List.getElem?_append_right (by omega), hy] at h
      obtain ⟨x, h1, h2⟩ := flat_get' f sz hz l (i - sz) v (fun z hz' => hs z (by simp [hz'])) h
      refine ⟨x, ?_, by rw [Nat.mod_eq_sub_mod hge]; exact h2⟩
      rw [Nat.div_eq_sub_div hz hge, List.getElem?_cons_succ]; exact h1

/-- an int's bounds -/
def i64ok (n : Int) : Prop := -9223372036854775808 ≤ n ∧ n ≤ 9223372036854775807
theorem i64ok_of {n : Int} (h : (Lit.int .i64 n).wf = true) : i64ok n := by
  simp only [Lit.wf, Bool.and_eq_true, decide_eq_true_eq] at h
  exact h

/-- A slice of structs of n int fields reads as a list of lists of n ints. -/
theorem open_sl {b0 : Nat} {r : Reach} {t e : TypeId} {fs : Array Field} {v : Value} {d : DataW H} {ps : List MemPlace} (ht : P.underlying t = some (.slice e)) (he : P.underlying e = some (.struct fs))
    (hone : oneCellFields P fs = true) (hC : P.cellsOf e = fs.size) (hpos : 0 < fs.size) (hint0 : fs.map (fun f => P.underlying f.type) = Array.replicate fs.size (some (.int .i64)))
    (hv : Value.okWide P w r b0 t v) (h : DataW.Trod enc P w base (fun _ => true) held t v d ps) :
    ∃ (A : Option Addr) (c : Nat) (l : List (List Int)), v = .slice A l.length c ∧ Sl (fun x => x.map (Value.int .i64)) fs.size w A c l ∧ (∀ x ∈ l, x.length = fs.size ∧ ∀ n ∈ x, i64ok n) := by
  have hint : ∀ (j : Nat) (f : Field), fs[j]? = some f → P.underlying f.type = some (.int .i64) := by
    intro j f hj
    have h1 : (fs.map (fun f => P.underlying f.type))[j]? = some (P.underlying f.type) := by rw [Array.getElem?_map, hj]; rfl
    rw [hint0] at h1
    have hlt := (Array.getElem?_eq_some_iff.1 hj).1
    rw [Array.getElem?_replicate, if_pos hlt] at h1
    exact (Option.some.inj h1).symm
  obtain ⟨a0, len0, cap0, rfl⟩ := okWide_slice ht hv
  obtain ⟨fuel, hf⟩ := h
  rcases open_slice ht hf with ⟨hcs, _⟩ | ⟨a, len, cap, m, n, D, Pl, hcs, hb, hl, hm, hmm, hx, hi⟩
  · simp only [Value.cells, List.cons.injEq, and_true, Value.slice.injEq] at hcs
    obtain ⟨rfl, rfl, rfl⟩ := hcs
    exact ⟨none, 0, [], rfl, Sl.nil (by omega), by simp⟩
  · simp only [Value.cells, List.cons.injEq, and_true, Value.slice.injEq] at hcs
    obtain ⟨rfl, rfl, rfl⟩ := hcs
    have hmc : m = cap0 := by simpa using hmm
    have hel : ∀ i, i < len0 → ∃ x : List Int, x.length = fs.size ∧ (∀ n ∈ x, i64ok n) ∧ w.cells? base (a.add (i * fs.size)) fs.size = some (x.map (Value.int .i64)) := by
      intro i hil
      obtain ⟨cs', hc, ht'⟩ := hi i (by omega)
      rw [hC] at hc
      obtain ⟨ys, n', hn', hy, hlen, hyl, hfd⟩ := DataW.trod_struct he ht'
      obtain ⟨_, hcl, hat⟩ := World.cells?_some hc
      have hval : ∀ j (hj : j < cs'.length), ∃ z : Int, cs'[j] = .int .i64 z ∧ i64ok z := by
        intro j hj
        have hjl : j < fs.size := by omega
        have hfj : fs[j]? = some fs[j] := Array.getElem?_eq_getElem hjl
        obtain ⟨ho, hk⟩ := hone_of hone j _ hfj
        have h1 := hfd j _ hfj
        rw [ho, hk] at h1
        have hone' : (cs'.drop j).take 1 = [cs'[j]] := by
          rw [List.drop_eq_getElem_cons hj]; rfl
        rw [hone'] at h1
        have hys : ys[j]? = some (ys[j]'(by omega)) := List.getElem?_eq_getElem (by omega)
        obtain ⟨z, hz1, _, hz3⟩ := DataW.trod_int (hint j _ hfj) (h1.trans hys)
        exact ⟨z, by simpa using hz1, i64ok_of hz3⟩
      refine ⟨cs'.map fun v => match v with | .int _ z => z | _ => 0, by simp; omega, ?_, ?_⟩
      · intro n hn
        obtain ⟨v, hvm, rfl⟩ := List.mem_map.1 hn
        obtain ⟨j, hj, rfl⟩ := List.getElem_of_mem hvm
        obtain ⟨z, hz, hok⟩ := hval j hj
        rw [hz]; exact hok
      · rw [hc, List.map_map]
        congr 1
        apply List.ext_getElem
        · simp
        · intro j h1 h2
          obtain ⟨z, hz, _⟩ := hval j h1
          simp [hz]
    have key : ∀ k, k ≤ len0 → ∃ l : List (List Int), l.length = k ∧ (∀ x ∈ l, x.length = fs.size ∧ ∀ n ∈ x, i64ok n) ∧ ∀ i x, l[i]? = some x → w.cells? base (a.add (i * fs.size)) fs.size = some (x.map (Value.int .i64)) := by
      intro k
      induction k with
      | zero => exact fun _ => ⟨[], rfl, by simp, by simp⟩
      | succ k ih =>
        intro hk
        obtain ⟨l, h1, h2, h3⟩ := ih (by omega)
        obtain ⟨x, x1, x2, x3⟩ := hel k (by omega)
        refine ⟨l ++ [x], by simp [h1], ?_, ?_⟩
        · intro y hy
          rcases List.mem_append.1 hy with hy | hy
          · exact h2 y hy
          · simp at hy; subst hy; exact ⟨x1, x2⟩
        · intro i y hy
          by_cases hi : i < l.length
          · rw [List.getElem?_append_left hi] at hy; exact h3 i y hy
          · rw [List.getElem?_append_right (by omega)] at hy
            have : i = l.length := by
              rcases Nat.lt_or_ge (i - l.length) 1 with h | h
              · omega
              · rw [List.getElem?_eq_none (by simpa using h)] at hy; cases hy
            subst this
            simp at hy; subst hy
            rw [h1]; exact x3
    obtain ⟨l, l1, l2, l3⟩ := key len0 (Nat.le_refl _)
    subst l1
    refine ⟨some a, cap0, l, rfl, ⟨hl, by simpa [maxLen] using hm, fun x hx => by simp [(l2 x hx).1], fun hne => ?_⟩, l2⟩
    have hget : ∀ k x, l[k]? = some x → ∀ j, j < fs.size → w.cell? ((a.add (k * fs.size)).add j) = (x.map (Value.int .i64))[j]? := fun k x hx j hj => (World.cells?_some (l3 k x hx)).2.2 j hj
    have h0 : l[0]? = some (l[0]'(List.length_pos_iff.2 hne)) := List.getElem?_eq_getElem _
    have hx0 := (l2 _ (List.mem_of_getElem? h0)).1
    have hc0 := hget 0 _ h0 0 hpos
    have hv0 : ((l[0]'(List.length_pos_iff.2 hne)).map (Value.int .i64))[0]? = some (((l[0]'(List.length_pos_iff.2 hne)).map (Value.int .i64))[0]'(by simp; omega)) := List.getElem?_eq_getElem _
    rw [hv0] at hc0
    have e0 : (a.add (0 * fs.size)).add 0 = a := by simp [Addr.add]
    rw [e0] at hc0
    have hspot := World.cell?_spot hc0
    obtain ⟨b, off, sp⟩ := a
    dsimp only at hspot
    subst hspot
    have hbl : b < w.heap.size := by
      rcases Nat.lt_or_ge b w.heap.size with h | h
      · exact h
      · simp [World.cell?, Array.getElem?_eq_none h] at hc0
    refine ⟨b, off, rfl, hbl, fun i v hv => ?_⟩
    obtain ⟨x, hx, hvx⟩ := flat_get' _ fs.size hpos l i v (fun x hx => by simp [(l2 x hx).1]) hv
    have hj : i % fs.size < fs.size := Nat.mod_lt _ hpos
    have := hget _ x hx _ hj
    rw [Go.WideShapes.add_plain, Go.WideShapes.add_plain, hvx] at this
    rw [← this]
    congr 2
    have := Nat.div_add_mod i fs.size
    rw [Nat.mul_comm] at this
    omega

/-- The same list under another reading of its elements. -/
theorem Sl.as {α β : Type} {f : α → List Value} {f' : β → List Value} {sz : Nat} {w : World} {A : Option Addr} {c : Nat} {l : List α} (h : Sl f sz w A c l) (g : α → β) (hg : ∀ x ∈ l, f' (g x) = f x) : Sl f' sz w A c (l.map g) := by
  have hfl : (l.map g).flatMap f' = l.flatMap f := by
    rw [List.flatMap_map, List.flatMap_def, List.flatMap_def, List.map_congr_left (fun x hx => hg x hx)]
  exact ⟨by simpa using h.le, h.max, fun y hy => by obtain ⟨x, hx, rfl⟩ := List.mem_map.1 hy; rw [hg x hx]; exact h.size x hx, fun hn => by rw [hfl]; exact h.cells (by intro e; subst e; simp at hn)⟩

end
end Go.Mine
