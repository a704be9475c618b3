/-
  A whole slice appended to a row of the call's own; a law at a step of a region that draws; a region cut off from what follows.
-/
import Derived.Test.YtnngemgfochodaaGreatPush
import Derived.Deep.RegionLaw
namespace Go.Mine
open Go.RowKit
section
variable {α : Type} {f : α → List Value} {sz : Nat} {e : TypeId} {P : Program} {w : World}

theorem run_extend {t ty : TypeId} {base : Nat} {i : TypeInfo} {z : Value} {bytes : Nat} (ht : P.underlying t = some (.slice e)) (hi : P.info? e = some i) (hz : i.zero = some z)
    (hsize : i.size = sz) (hby : i.bytes = bytes) (hzs : z.cells.size = sz) (hsz : 0 < sz)
    {v : Value} {l1 l2 : List α} (hown : OwnL f sz e w base v l1) {A : Option Addr} {c : Nat} (h2 : Sl f sz w A c l2)
    (h1 : ∀ x ∈ l2, ∀ u ∈ f x, u.oneCell' = true) (h63 : l1.length + l2.length ≤ maxLen) (hbytes : (l1.length + l2.length) * bytes ≤ 140737488355328) (hbase : base ≤ w.heap.size) :
    ∃ v' w', (Builtin.append_ #[t, t] ty #[v, .slice A l2.length c]).run P w = .ok v' w' ∧ OwnL f sz e w' base v' (l1 ++ l2) ∧ w.grownBy w' v.ownBlock ∧ (∀ g, v'.ownBlock = some g → v.ownBlock = some g ∨ w.heap.size ≤ g) := by
  have hs2 : ∀ x ∈ l1 ++ l2, (f x).length = sz := fun x hx => by
    rcases List.mem_append.1 hx with hx | hx
    · exact hown.2 x hx
    · exact h2.size x hx
  cases A with
  | none =>
    have hn : l2 = [] := by
      rcases Classical.em (l2 = []) with h | h
      · exact h
      · obtain ⟨b, off, hh, _⟩ := h2.cells h; cases hh
    subst hn
    refine ⟨v, w, ?_, by simpa using hown, World.grownBy.refl w _, fun g hg => .inl hg⟩
    obtain ⟨⟨hl, h3⟩, _⟩ := hown
    rcases h3 with ⟨rfl, _⟩ | ⟨g, cap, cur, rfl, _, hg, hnc, _⟩
    · simp [Builtin.append_, run_underlying ht, sizeOf, typeInfo, hi, Builtin.lenOf, Builtin.firstCells]
    · simp [Builtin.append_, run_underlying ht, sizeOf, typeInfo, hi, Builtin.lenOf, Builtin.firstCells, loadCells, storeCells, hnc]
  | some ad =>
    have hnews : ∀ j u, (l2.flatMap f)[j]? = some u → w.cell? (ad.add j) = some u := by
      intro j u hj
      have hne : l2 ≠ [] := by rintro rfl; simp at hj
      obtain ⟨b, off, ha, _, hc⟩ := h2.cells hne
      obtain rfl : ad = ⟨b, off, none⟩ := by simpa using ha
      have hadd : ((⟨b, off, none⟩ : Addr).add j) = ⟨b, off + j, none⟩ := by unfold Addr.add; split <;> simp_all
      rw [hadd]
      exact hc j u hj
    obtain ⟨v', w', hr, q2, q3, q4, q5⟩ := run_append_own_at (P := P) w base t ty e i z sz bytes ht hi hz hsize hby hzs hsz v l1.length _ hown.1 ad l2.length c (l2.flatMap f) (flat_length f sz l2 h2.size) hnews
      (fun u hu => by obtain ⟨x, hx, hux⟩ := List.mem_flatMap.1 hu; exact h1 x hx u hux) h63 hbytes hbase
    refine ⟨v', w', hr, ⟨by simpa using q2, hs2⟩, q3, fun g hg => ?_⟩
    rcases q5 with hat | hat <;> rw [hat] at hg
    · exact .inl hg
    · exact .inr (by simp at hg; omega)

/-- A builtin's law at a step of a region that draws. -/
theorem step_append {ops : Array Oper} {o : Oper} {a : Act} {K : Act → World → Prop} {Q : Exit → Act → World → Prop} {E : Prop} (hg : o.guard = none) (s x : Operand) (t : TypeId)
    (hop : o.op = Op.call { callee := Callee.builtin Builtin.append, args := #[s, x], argTypes := #[t, t] }) {v u : Value} (hs : a.eval s = v) (hx : a.eval x = u) {G : Value → World → Prop}
    (hrun : ∃ v' w', (Builtin.append_ #[t, t] o.type #[v, u]).run P w = .ok v' w' ∧ G v' w') (hK : ∀ v' w', G v' w' → K (a.put o.dst v') w') :
    if Region.wanted o (yielded ops a.tmps) = true then Oper.wp P o a w K Q else E := by
  have hw : Region.wanted o (yielded ops a.tmps) = true := by simp [Region.wanted, hg]
  rw [if_pos hw]
  obtain ⟨v', w', hr, hG⟩ := hrun
  unfold Oper.wp
  simp [execOp, hop, resolve, invoke, builtin, hs, hx, hr, Result.andThen]
  exact hK _ _ hG
/-- The same in a plain region. -/
theorem wpList_append {ops : Array Oper} {rest : List Oper} {o : Oper} {a : Act} {Q : Exit → Act → World → Prop} (hg : o.guard = none) (s x : Operand) (t : TypeId)
    (hop : o.op = Op.call { callee := Callee.builtin Builtin.append, args := #[s, x], argTypes := #[t, t] }) {v u : Value} (hs : a.eval s = v) (hx : a.eval x = u) {G : Value → World → Prop}
    (hrun : ∃ v' w', (Builtin.append_ #[t, t] o.type #[v, u]).run P w = .ok v' w' ∧ G v' w') (hK : ∀ v' w', G v' w' → wpList P ops Q rest (a.put o.dst v') w') :
    wpList P ops Q (o :: rest) a w := by
  refine wpList_plain hg fun K hK' => ?_
  obtain ⟨v', w', hr, hG⟩ := hrun
  unfold Oper.wp execOp
  simp only [hop, resolve, invoke, builtin, Sem.run_bind, Sem.run_pure, Result.andThen_ok, List.map_toArray, List.map_cons, List.map_nil, hs, hx, hr]
  exact hK' _ _ (hK _ _ hG)

/-- What is asked behind a piece of code that neither leaves nor panics. -/
def onlyN (T : Act → World → Prop) : Exit → Act → World → Prop
  | .normal, a, w => T a w
  | _, _, _ => False
/-- A piece of code shown by itself, what follows by what is known behind it. -/
theorem wp_cut {c : Code} {Q : Exit → Act → World → Prop} {a : Act} (T : Act → Act → World → Prop) (h : c.wp P (onlyN (T a)) a w) (h2 : ∀ a' w', T a a' w' → Q .normal a' w') : c.wp P Q a w := by
  intro b k cs
  obtain ⟨e, a', w', hT, harr⟩ := h b k cs
  cases e <;> first | exact hT.elim | exact ⟨_, a', w', h2 _ _ hT, harr⟩
theorem OwnL.fresh' {W : World} {base g : Nat} (hg : W.heap.size = g) (hb : base ≤ g) : OwnL f sz e (W.alloc (.cells #[] e)) base (.slice (some ⟨g, 0, none⟩) 0 0) ([] : List α) := by
  subst hg; exact OwnL.fresh W hb
theorem Blk.new' {W : World} {g : Nat} {cs : Array Value} {ty : TypeId} (hg : W.heap.size = g) : Blk (W.alloc (.cells cs ty)) g ty cs := by subst hg; exact Blk.new W cs ty
theorem Blk.grown {W W' : World} {b : Nat} {ty : TypeId} {cs : Array Value} (h : Blk W b ty cs) {row : Option Nat} (hg : W.grownBy W' row) (hr : some b ≠ row) : Blk W' b ty cs := ⟨Nat.lt_of_lt_of_le h.lt hg.size, (hg.block b h.lt hr).trans h.at_⟩
/-- one element -/
theorem Sl.one {W : World} {b c : Nat} {ty : TypeId} {cs : Array Value} (h : Blk W b ty cs) {x : α} (hx : cs.toList = f x) (hl : (f x).length = sz) (h1 : 1 ≤ c) (hc : c ≤ 9223372036854775807) : Sl f sz W (some ⟨b, 0, none⟩) c [x] :=
  ⟨by simpa using h1, hc, by simpa using hl, fun _ => ⟨b, 0, rfl, h.lt, fun i v hv => by
    simp only [Nat.zero_add, World.cell?, h.at_]
    rw [← Array.getElem?_toList, hx]
    simpa using hv⟩⟩
theorem gcell {W W' : World} {row : Option Nat} {b o : Nat} {v : Value} (hg : W.grownBy W' row) (hb : b < W.heap.size) (hr : some b ≠ row) (hc : W.cell? ⟨b, o, none⟩ = some v) : W'.cell? ⟨b, o, none⟩ = some v := by
  rw [← hc]; simp only [World.cell?, hg.block b hb hr]
end
end Go.Mine
