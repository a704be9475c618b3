/-
  slices.DeleteFunc at structs.
  budgets: a copy of the trades, those that stand, sorted.
  budgets: the trades that stand, as rows; what a trade performs.
  budgets: a trade is performed.
  budgets: Standing.
-/
import Derived.Test.YtnngemgfochodaaGreatTM2
import Derived.Test.YtnngemgfochodaaGreatTM3
import Derived.Lib.SlKept
import Derived.Lib.SliceRun
import Derived.Deep.RegionHeld3
import Derived.BigRegion
import Derived.Test.YtnngemgfochodaaGreatTM1
namespace Go.Proofs.YtnngemgfochodaaGreat
open Go.RowKit Go.Shelf Go.Sort Go.Mine Go.Mine.B Go.Proofs Go.Lib
variable {P : Program} {k : Nat} {enc : Tr → List Value} {w W : World} {blk : Nat} {d dk : Array Tr}
theorem ixGo_cases (p : Tr → Bool) : ∀ (l : List Tr) (n : Nat), (ixGo p l n = -1 ∧ ∀ j, j < l.length → p l[j]! = false) ∨ ∃ j, j < l.length ∧ ixGo p l n = ((n + j : Nat) : Int) ∧ p l[j]! = true ∧ ∀ i, i < j → p l[i]! = false
  | [], n => .inl ⟨rfl, fun j hj => absurd hj (Nat.not_lt_zero _)⟩
  | x :: l, n => by
    by_cases h : p x = true
    · exact .inr ⟨0, by simp, by simp [ixGo, h], by simpa using h, fun i hi => absurd hi (Nat.not_lt_zero _)⟩
    · have h0 : p x = false := by simpa using h
      have e : ixGo p (x :: l) n = ixGo p l (n + 1) := if_neg h
      rcases ixGo_cases p l (n + 1) with ⟨a, b⟩ | ⟨j, a, b, c, f⟩
      · refine .inl ⟨e.trans a, fun j hj => ?_⟩
        rcases j with _ | j
        · simpa using h0
        · simpa using b j (by simpa using hj)
      · refine .inr ⟨j + 1, by simpa using a, ?_, by simpa using c, fun i hi => ?_⟩
        · rw [e, b]; congr 1; omega
        · rcases i with _ | i
          · simpa using h0
          · simpa using f i (by omega)
theorem HoldsK.bel (h : HoldsK enc k W blk 0 d) (hb : blk < W.heap.size) {W' : World} (k' : Below W.heap.size W W') : HoldsK enc k W' blk 0 d := fun t ht => by
  obtain ⟨a, b⟩ := h t ht
  exact ⟨(k'.cell (p := ⟨blk, 0 + t, none⟩) hb).trans a, (k'.frozen (p := ⟨blk, 0 + t, none⟩) hb).trans b⟩
theorem setMany_set (hk : ∀ x, (enc x).length = k) (d : Array Tr) (i : Nat) (hi : i < d.size) (x : Tr) : setMany (flatK enc k d) (i * k) (enc x) = flatK enc k (d.setIfInBounds i x) := by
  refine ext_get! (by simp) fun t ht => ?_
  have ht' : t < d.size * k := by simpa using ht
  have k0 : 0 < k := by rcases Nat.eq_zero_or_pos k with h | h; · subst h; simp at ht'
                        · exact h
  rw [get_setMany _ _ _ t (by simpa using ht'), get_flatK _ _ _ t ht', get_flatK _ _ _ t (by simpa using ht'), hk]
  by_cases a : t / k = i
  · rw [if_pos ((blk_iff k i t k0).2 a), a, getElem!_set_same d i x hi]
    have : t - i * k = t % k := by subst a; rw [Nat.mod_eq_sub_div_mul]
    rw [this]
  · rw [if_neg (fun h => a ((blk_iff k i t k0).1 h)), getElem!_set_other d i (t / k) x a]
theorem HoldsK.put (h : HoldsK enc k W blk 0 d) (hk : ∀ x, (enc x).length = k) {i : Nat} (hi : i < d.size) (x : Tr) : HoldsK enc k (W.setCells blk (0 + i * k) (enc x)) blk 0 (d.setIfInBounds i x) := by
  have := holds_setCells_c (W := W) (blk := blk) (off := 0) h (i * k) (enc x) (by rw [hk, size_flatK]; exact rowK_bnd d k i hi)
  unfold HoldsK
  rw [← setMany_set hk d i hi x]
  exact this
theorem HoldsK.part (h : HoldsK enc k W blk 0 dk) (hs : d.size ≤ dk.size) (he : ∀ j, j < d.size → d[j]! = dk[j]!) : HoldsK enc k W blk 0 d := fun t ht => by
  have ht' : t < d.size * k := by simpa using ht
  have htk : t < dk.size * k := Nat.lt_of_lt_of_le ht' (Nat.mul_le_mul_right k hs)
  have k0 : 0 < k := by rcases Nat.eq_zero_or_pos k with h | h; · subst h; simp at ht'
                        · exact h
  have := h t (by simpa using htk)
  rw [get_flatK _ _ _ _ htk] at this
  rw [get_flatK _ _ _ _ ht', he _ (Nat.div_lt_of_lt_mul (by rwa [Nat.mul_comm] at ht'))]
  exact this
theorem HoldsK.beyond (h : HoldsK enc k W blk 0 d) (o : Nat) (vs : List Value) (ho : d.size * k ≤ o) : HoldsK enc k (W.setCells blk o vs) blk 0 d := fun t ht => by
  have ht' : t < d.size * k := by simpa using ht
  obtain ⟨a, b⟩ := h t ht
  exact ⟨(World.cell?_setCells_out blk vs o W ⟨blk, 0 + t, none⟩ (fun _ _ => .inl (by show 0 + t < o; omega))).trans a, (World.frozen?_setCells blk vs o W _).trans b⟩
theorem gb_setCells (h : w.grownBy W (some blk)) : ∀ (vs : List Value) (o : Nat), w.grownBy (W.setCells blk o vs) (some blk) := by
  intro vs
  induction vs generalizing W with
  | nil => intro o; exact h
  | cons v vs ih => intro o; exact ih (W := W.setCell ⟨blk, o, none⟩ v) (gb_set h (.inl rfl) v) (o + 1)
/-- a new box holds what is laid into it -/
theorem store_new (P : Program) (W : World) (ty : TypeId) (zs : Array Value) (vs : List Value) (hz : zs.size = vs.length) (h1 : ∀ v ∈ vs, v.oneCell' = true) :
    Sem.run P (storeCells ⟨W.heap.size, 0, none⟩ vs 0) (W.alloc (.cells zs ty)) = .ok () (W.alloc (.cells vs.toArray ty)) := by
  have hr := run_storeCells_cells (P := P) W.heap.size 0 vs 0 (W.alloc (.cells zs ty)) (fun j hj => by have e := heap_new W (.cells zs ty); simp only [World.cell?, e]; simp [hz, hj]) (fun j hj => by have e := heap_new W (.cells zs ty); simp only [World.frozen?, e]; simp) h1
  rw [hr]
  congr 1
  have go : ∀ (vs : List Value) (o : Nat) (zs : Array Value), (W.alloc (.cells zs ty)).setCells W.heap.size o vs = W.alloc (.cells (setMany zs o vs) ty) := by
    intro vs
    induction vs with
    | nil => intro o zs; rfl
    | cons v vs ih =>
      intro o zs
      have e : (W.alloc (.cells zs ty)).setCell ⟨W.heap.size, o, none⟩ v = W.alloc (.cells (zs.setIfInBounds o v) ty) := by
        first | exact World.setCell_alloc_new _ _ _ _ | exact World.setCell_alloc_at _ _ _ _ _ rfl
      show ((W.alloc (.cells zs ty)).setCell ⟨W.heap.size, o, none⟩ v).setCells W.heap.size (o + 1) vs = _
      rw [e, ih]; rfl
  rw [go]
  congr 2
  refine ext_get! (by simp [hz]) fun t ht => ?_
  have ht' : t < zs.size := by simpa using ht
  rw [get_setMany _ _ _ _ ht', if_pos (by omega)]
  simp
theorem run_clear_k (P : Program) (W : World) (t e ty : TypeId) (z : Value) (ht : P.underlying t = some (.slice e)) (hv : ∀ w, (zeroValue e).run P w = .ok z w) (hzk : z.cells.size = k) (hz1 : ∀ v ∈ z.cells.toList, v.oneCell' = true) (b o n c : Nat) (hn : 0 < n)
    (hc : ∀ j, j < n * k → (W.cell? ⟨b, o + j, none⟩).isSome = true) (hf : ∀ j, j < n * k → W.frozen? ⟨b, o + j, none⟩ = false) :
    (Builtin.clear_ #[t] ty #[.slice (some ⟨b, o, none⟩) n c]).run P W = .ok (.tuple #[]) (W.setCells b o (Builtin.zeroCells z.cells n).toList) := by
  have hl : (Builtin.zeroCells z.cells n).toList.length = n * k := by simp [Builtin.zeroCells, hzk]
  have hst := run_storeCells_cells (P := P) b o (Builtin.zeroCells z.cells n).toList 0 W (fun j hj => by rw [Nat.add_zero]; exact hc j (by omega)) (fun j hj => by rw [Nat.add_zero]; exact hf j (by omega)) (by
    intro v hv'
    obtain ⟨i, hi, rfl⟩ := List.getElem_of_mem hv'
    rw [hl] at hi
    have k0 : 0 < k := by rcases Nat.eq_zero_or_pos k with h | h; · subst h; simp at hi
                          · exact h
    have hm : i % z.cells.size < z.cells.size := Nat.mod_lt _ (by omega)
    simp only [Builtin.zeroCells, Array.toList_map, List.getElem_map, Array.toList_range, List.getElem_range]
    rw [getElem!_pos z.cells _ hm]
    exact hz1 _ (by simp))
  simp only [Nat.add_zero] at hst
  obtain ⟨m, rfl⟩ : ∃ m, n = m + 1 := ⟨n - 1, by omega⟩
  simp [Builtin.clear_, run_underlying ht, hv, hst]
set_option maxHeartbeats 4000000 in
set_option maxRecDepth 1000000 in
theorem delete48 (T : StT P k) (f48 : P.funcs[19]? = some Tryz.f19) (e63 : ∀ args w, (callFunc 48 args).run P w = .ok (.enter 48 args) w) (_t63 : P.underlying 51 = some (TypeDesc.func #[38] #[4] false)) (zs : Array Value) (hz : ∀ w, (zeroValue 38).run P w = .ok (.agg zs) w) (hzk : zs.size = k) (hz1 : ∀ v ∈ zs.toList, v.oneCell' = true)
    (hk : ∀ x, (enc x).length = k) (h1 : ∀ x, ∀ v ∈ enc x, v.oneCell' = true) (_k0 : 0 < k) (p : Tr → Bool) (g : Nat) (cb : Array Value) (eg : ∀ args w, (callFunc g args).run P w = .ok (.enter g args) w) (cap : Nat) (hH : HoldsK enc k w blk 0 d) (hblk : blk < w.heap.size) (hsz : d.size < 4611686018427387904) (hcap : d.size ≤ cap) (hcm : cap ≤ 9223372036854775807)
    (hix : Calls P 48 #[.slice (some ⟨blk, 0, none⟩) d.size cap, .func (.func g) #[] cb] w fun e w' => e = .returned (.int .i64 (ixGo p d.toList 0)) ∧ Below w.heap.size w w')
    (hg : ∀ x, x ∈ d.toList → ∀ W, w.grownBy W (some blk) → Calls P g (#[.agg (enc x).toArray] ++ cb) W fun e w' => e = .returned (.bool (p x)) ∧ Below W.heap.size W w') :
    Calls P 19 #[.slice (some ⟨blk, 0, none⟩) d.size cap, .func (.func g) #[] cb] w fun e w' => e = .returned (.slice (some ⟨blk, 0, none⟩) (d.toList.filter fun x => !p x).length cap) ∧ HoldsK enc k w' blk 0 (d.toList.filter fun x => !p x).toArray ∧ w.grownBy w' (some blk) := by
  have mixed := T.mixed; have t0 := T.t0; have a0 := T.a0; have z0 := T.z0; have v0 := T.v0; have t3 := T.t3; have a3 := T.a3; have z3 := T.z3; have v3 := T.v3; have t4 := T.t4; have a4 := T.a4; have z4 := T.z4; have v4 := T.v4; have t23 := T.t23; have a23 := T.a23; have z23 := T.z23; have v23 := T.v23; have t70 := T.t70; have a70 := T.a70; have z70 := T.z70; have v70 := T.v70; have t89 := T.t89; have a89 := T.a89; have z89 := T.z89; have v89 := T.v89; have aE := T.aE; have zE := T.zE; have u23 := run_underlying T.t23
  have HG := hide hg
  have HH := hide hH
  have KI := hide hix
  have HK := hide hk
  have H1 := hide h1
  have HZ := hide (And.intro hz (And.intro hzk hz1))
  have HT := hide T
  have tl : ∀ j, j < d.size → d.toList[j]! = d[j]! := fun j hj => by rw [getElem!_pos d j hj, getElem!_pos d.toList j (by simpa using hj)]; simp
  obtain ⟨kp, hkp⟩ : ∃ kp : Nat → Bool, kp = fun j => !p d[j]! := ⟨_, rfl⟩
  have hfil : (d.toList.filter fun x => !p x) = keptUpTo kp d d.size := by rw [hkp]; exact (keptUpTo_filter (fun x => !p x) d).symm
  rw [hfil]
  have hpk : ∀ j, p d[j]! = !kp j := fun j => by rw [hkp]; simp
  have HP := hide hpk
  rcases ixGo_cases p d.toList 0 with ⟨e1, hall⟩ | ⟨j0, hj0, e1, ht, hall⟩
  · have hkeep : ∀ j, j < d.size → kp j = true := fun j hj => by have := hall j (by simpa using hj); rw [tl j hj, hpk] at this; simpa using this
    have e3 : keptUpTo kp d d.size = d.toList := by rw [keptUpTo_all kp d _ hkeep, range_map_get]
    rw [e3]
    rw [e1] at KI
    clear T hg hH hix hk h1 hz hzk hz1 tl hkp hfil hpk hall e1 hkeep e3
    go_enter f48, Tryz.ntmps19
    go_wp2_with fail
    refine KI.out.mono ?_
    rintro e w' ⟨rfl, hb⟩
    have HB := hide hb
    clear hb
    go_wp2
    go_ret
    exact ⟨by simp, by rw [Array.toArray_toList]; exact HoldsK.bel HH.out hblk HB.out, gb_below HB.out _⟩
  · have hj0' : j0 < d.size := by simpa using hj0
    have hkeep : ∀ j, j < j0 → kp j = true := fun j hj => by have := hall j hj; rw [tl j (by omega), hpk] at this; simpa using this
    have hdrop : kp j0 = false := by rw [tl j0 hj0', hpk] at ht; simpa using ht
    have S0 := hide (KeptInv.start (d := d) hkeep hdrop)
    rw [e1, Nat.zero_add] at KI
    have hne1 : ((j0 : Int) == -1) = false := beq_eq_false_iff_ne.2 (by omega)
    have hjw : IntKind.i64.wrap ((j0 : Int) + 1) = (j0 : Int) + 1 := by rw [IntKind.wrap_i64]; omega
    clear T hg hH hix hk h1 hz hzk hz1 tl hkp hfil hpk hall e1 hkeep hdrop ht hj0
    have hzz := HZ.out.1
    go_enter f48, Tryz.ntmps19
    go_wp2_with fail
    refine KI.out.mono ?_
    rintro e w1 ⟨rfl, hb⟩
    have HW1 := hide (And.intro (HoldsK.bel HH.out hblk hb) (gb_below hb (some blk)))
    clear hb
    go_wp2
    go_loopg [5, 6, 7] d.size (fun gg s5 s6 _ wr => ∃ (i j : Nat) (dj : Array Tr), s5 = .int .i64 i ∧ s6 = .int .i64 j ∧ i < j ∧ j ≤ d.size ∧ d.size - j ≤ gg ∧ Hid (HoldsK enc k wr blk 0 dj ∧ w.grownBy wr (some blk)) ∧ Hid (KeptInv kp d j i dj))
    case atStart => exact ⟨j0, j0 + 1, d, rfl, by go_num, by omega, by omega, by omega, HW1, S0⟩
    case round =>
      obtain ⟨i, j, dj, rfl, rfl, hij, hjd, hgg, HW, HI⟩ := hrel
      by_cases hlt : j < d.size
      · have hltz : (j : Int) < (d.size : Int) := by omega
        obtain ⟨x, hx⟩ : ∃ x, x = d[j]! := ⟨_, rfl⟩
        have hsz2 := HI.out.size
        have hxj : dj[j]! = x := by rw [hx]; exact HI.out.high j (by omega)
        have ld : Sem.run P (loadCellsFrom ⟨blk, j * k, none⟩ 0 k #[]) wr = .ok (enc x).toArray wr := by
          have := run_loadCellsFrom_list P wr ⟨blk, 0 + j * k, none⟩ (enc dj[j]!) k (HK.out _) (HoldsK.cells HW.out.1 HK.out (by omega))
          rwa [Nat.zero_add, hxj] at this
        have hlx : (enc x).length = k := HK.out x
        have hst := store_new P wr 38 zs (enc x) (by rw [HZ.out.2.1, HK.out]) (H1.out x)
        have hgw : w.heap.size ≤ wr.heap.size := HW.out.2.size
        have hgb1 := gb_alloc HW.out.2 (.cells (enc x).toArray 38)
        have hlb : ∀ W', Below (wr.alloc (.cells (enc x).toArray 38)).heap.size (wr.alloc (.cells (enc x).toArray 38)) W' → Sem.run P (loadCellsFrom ⟨wr.heap.size, 0, none⟩ 0 k #[]) W' = .ok (enc x).toArray W' := fun W' hb =>
          run_loadCellsFrom_list P W' ⟨wr.heap.size, 0, none⟩ (enc x) k (HK.out _) (fun c v hv => by
            rw [show (⟨wr.heap.size, 0, none⟩ : Addr).add c = ⟨wr.heap.size, c, none⟩ by unfold Addr.add; split <;> simp_all]
            exact ((Blk.new wr (enc x).toArray 38).bel hb).cell c (by simpa using hv))
        have l0 := hlb _ (Below.refl _ _)
        have HC := hide (HG.out x (by rw [hx, getElem!_pos d j hlt]; simp) _ hgb1)
        have HPX := hide (show p x = !kp j by rw [hx]; exact HP.out j)
        have HL := hide hlb
        have HGB := hide hgb1
        have HX := hide hx
        clear hx hxj hgb1 hlb
        rw [HPX.out] at HC
        have hbw : blk < wr.heap.size := by omega
        have hne : blk ≠ wr.heap.size := by omega
        have iw := wrap64 (n := i + 1) (by omega)
        have jw := wrap64 (n := j + 1) (by omega)
        cases hkj : kp j with
        | false =>
          rw [hkj] at HC
          have HKJ := hide hkj
          clear hkj
          go_wp2_with fail
          refine HC.out.mono ?_
          rintro e w2 ⟨rfl, hb⟩
          have HR := hide (show HoldsK enc k w2 blk 0 dj ∧ w.grownBy w2 (some blk) from ⟨HoldsK.bel (HoldsK.bel HW.out.1 hbw ((Below.refl _ _).alloc (Nat.le_refl _) _)) (by simp; omega) hb, gb_trans HGB.out (gb_below hb _)⟩)
          clear hb
          go_wp2
          go_roundg (d.size - (j + 1))
          case measure => omega
          case rel => exact ⟨i, j + 1, dj, rfl, by go_num, by omega, by omega, Nat.le_refl _, HR, HI.out.skip HKJ.out⟩
        | true =>
          rw [hkj] at HC
          have HKJ := hide hkj
          clear hkj
          go_wp2_with fail
          refine HC.out.mono ?_
          rintro e w2 ⟨rfl, hb⟩
          have hH2 := HoldsK.bel (HoldsK.bel HW.out.1 hbw ((Below.refl _ _).alloc (Nat.le_refl _) (.cells (enc x).toArray 38))) (by simp; omega) hb
          have l2 := HL.out w2 hb
          have s2 : Sem.run P (storeCells ⟨blk, i * k, none⟩ (enc x) 0) w2 = .ok () (w2.setCells blk (i * k) (enc x)) := by
            have := stores_of_holds P hH2 (i * k) (enc x) (by rw [HK.out, size_flatK]; exact rowK_bnd dj k i (by omega)) (H1.out x)
            rwa [Nat.zero_add] at this
          have HR := hide (show HoldsK enc k (w2.setCells blk (i * k) (enc x)) blk 0 (dj.setIfInBounds i x) ∧ w.grownBy (w2.setCells blk (i * k) (enc x)) (some blk) from ⟨by have := HoldsK.put hH2 HK.out (i := i) (by omega) x; rwa [Nat.zero_add] at this, gb_setCells (gb_trans HGB.out (gb_below hb _)) _ _⟩)
          clear hb hH2
          go_wp2
          go_roundg (d.size - (j + 1))
          case measure => omega
          case rel => exact ⟨i + 1, j + 1, _, by go_num, by go_num, by omega, by omega, Nat.le_refl _, HR, by
            have := HI.out.keep hlt HKJ.out
            rw [← HX.out] at this; exact this⟩
      · obtain rfl : j = d.size := by omega
        have hltz : ¬ (d.size : Int) < (d.size : Int) := by omega
        have hci : ¬ cap = i := by omega
        have hni : ¬ (d.size - i = 0) := by omega
        have hcl : ∀ ty, (Builtin.clear_ #[23] ty #[.slice (some ⟨blk, i * k, none⟩) (d.size - i) (cap - i)]).run P wr = .ok (.tuple #[]) (wr.setCells blk (i * k) (Builtin.zeroCells zs (d.size - i)).toList) :=
          fun ty => run_clear_k P wr 23 38 ty (.agg zs) HT.out.t23 HZ.out.1 HZ.out.2.1 HZ.out.2.2 blk (i * k) (d.size - i) (cap - i) (by omega)
            (fun c hc => by
              have hm : i * k + c < dj.size * k := by rw [HI.out.size]; have : i * k + (d.size - i) * k = d.size * k := by rw [← Nat.add_mul]; congr 1; omega
                                                      omega
              rw [← Nat.zero_add (i * k + c)]
              rw [(HW.out.1 (i * k + c) (by simpa using hm)).1]; rfl)
            (fun c hc => by
              have hm : i * k + c < dj.size * k := by rw [HI.out.size]; have : i * k + (d.size - i) * k = d.size * k := by rw [← Nat.add_mul]; congr 1; omega
                                                      omega
              rw [← Nat.zero_add (i * k + c)]
              exact (HW.out.1 (i * k + c) (by simpa using hm)).2)
        clear hzz
        go_wp2
        go_ret
        have hI := HI.out
        refine ⟨by rw [hI.len]; rfl, ?_, gb_setCells HW.out.2 _ _⟩
        have hd0 : HoldsK enc k wr blk 0 (keptUpTo kp d d.size).toArray := HoldsK.part HW.out.1 (by simp [hI.len, hI.size]; omega) (fun c hc => by
          have hc' : c < (keptUpTo kp d d.size).length := by simpa using hc
          have := hI.low c (by rw [← hI.len]; exact hc')
          rw [List.getElem?_eq_getElem hc'] at this
          rw [getElem!_pos _ c hc]
          simpa using this)
        exact HoldsK.beyond hd0 _ _ (by simp [hI.len])
end Go.Proofs.YtnngemgfochodaaGreat
namespace Go.Proofs.YtnngemgfochodaaGreat
open Go.RowKit Go.Mine Go.Mine.B Go.Sort Go.Shelf
theorem Try_info38 : (Tryz.prog.info? 38).map (fun i => (i.zero, i.size, i.bytes)) = some (some (.agg #[.int .i64 0, .int .i64 0, .int .i64 0, .int .i64 0, .int .i64 0, .int .i64 0, .int .i64 0]), 7, 56) := by kernel_rfl
theorem Try_info30 : (Tryz.prog.info? 30).map (fun i => (i.zero, i.size, i.bytes)) = some (some (.agg #[.int .i64 0, .int .i64 0, .int .i64 0, .int .i64 0, .int .i64 0]), 5, 40) := by kernel_rfl
theorem tr_one (x : Tr) : ∀ u ∈ trC x, u.oneCell' = true := by intro u hu; simp [trC] at hu; rcases hu with rfl | rfl | rfl | rfl | rfl | rfl | rfl <;> rfl
theorem bu_one (x : Bu) : ∀ u ∈ buC x, u.oneCell' = true := by intro u hu; simp [buC] at hu; rcases hu with rfl | rfl | rfl | rfl | rfl <;> rfl
theorem run_ext_tr {P : Program} {w : World} {t ty e : TypeId} {base : Nat} {i : TypeInfo} {z : Value} {bytes : Nat} (ht : P.underlying t = some (.slice e)) (hi : P.info? e = some i) (hz : i.zero = some z)
    (hsize : i.size = 7) (hby : i.bytes = bytes) (hzs : z.cells.size = 7) {v : Value} {l1 l2 : List Tr} (hown : OwnL trC 7 e w base v l1) {A : Option Addr} {c n : Nat} (hn : l2.length = n) (h2 : Sl trC 7 w A c l2)
    (h63 : l1.length + n ≤ maxLen) (hbytes : (l1.length + n) * bytes ≤ 140737488355328) (hbase : base ≤ w.heap.size) :
    ∃ v' w', (Builtin.append_ #[t, t] ty #[v, .slice A n c]).run P w = .ok v' w' ∧ OwnL trC 7 e w' base v' (l1 ++ l2) ∧ w.grownBy w' v.ownBlock ∧ (∀ g, v'.ownBlock = some g → v.ownBlock = some g ∨ w.heap.size ≤ g) := by
  subst hn
  exact run_extend ht hi hz hsize hby hzs (by decide) hown h2 (fun x _ => tr_one x) h63 hbytes hbase
theorem run_ext_bu {P : Program} {w : World} {t ty e : TypeId} {base : Nat} {i : TypeInfo} {z : Value} {bytes : Nat} (ht : P.underlying t = some (.slice e)) (hi : P.info? e = some i) (hz : i.zero = some z)
    (hsize : i.size = 5) (hby : i.bytes = bytes) (hzs : z.cells.size = 5) {v : Value} {l1 l2 : List Bu} (hown : OwnL buC 5 e w base v l1) {A : Option Addr} {c n : Nat} (hn : l2.length = n) (h2 : Sl buC 5 w A c l2)
    (h63 : l1.length + n ≤ maxLen) (hbytes : (l1.length + n) * bytes ≤ 140737488355328) (hbase : base ≤ w.heap.size) :
    ∃ v' w', (Builtin.append_ #[t, t] ty #[v, .slice A n c]).run P w = .ok v' w' ∧ OwnL buC 5 e w' base v' (l1 ++ l2) ∧ w.grownBy w' v.ownBlock ∧ (∀ g, v'.ownBlock = some g → v.ownBlock = some g ∨ w.heap.size ≤ g) := by
  subst hn
  exact run_extend ht hi hz hsize hby hzs (by decide) hown h2 (fun x _ => bu_one x) h63 hbytes hbase
set_option maxHeartbeats 1000000 in
theorem clone49 (A : Option Addr) (c : Nat) (l : List Tr) (w : World) (hS : Sl trC 7 w A c l) (hl : l.length ≤ 1000000) :
    Calls Tryz.prog 20 #[.slice A l.length c] w fun e w' => ∃ v, e = .returned v ∧ OwnL trC 7 38 w' w.heap.size v l ∧ Below w.heap.size w w' := by
  have hlc := hS.le
  have hc := hS.max
  obtain ⟨i0, hi, hz0, hz1, hz2⟩ := info_parts Try_info38
  have HI := hide hi
  clear hi
  have q23 : ∀ (w : World) (a : Option Addr) (n c n' c' : Nat), (binOp .eql 23 (.slice a n c) (.slice none n' c')).run Tryz.prog w = .ok (.bool a.isNone) w := fun w a n c n' c' => Lib.run_eql_slice_nil w _ _ a n c n' c' Tryz.underlying23
  rcases A with _ | ad
  · have hn : l = [] := by
      rcases Classical.em (l = []) with h | h
      · exact h
      · obtain ⟨b, off, hh, _⟩ := hS.cells h; cases hh
    subst hn
    go_enter Tryz.func20, Tryz.ntmps20
    go_wp2
    go_ret
    exact ⟨_, rfl, OwnL.nil _ _ _ _ _, Below.refl _ _⟩
  · have HS := hide (hS.alloc (.cells #[] 38))
    clear hS
    go_enter Tryz.func20, Tryz.ntmps20
    go_wp2_with (at_builtin; refine wpList_append rfl (.tmp 5) (.tmp 6) 23 rfl rfl rfl (run_ext_tr (base := w.heap.size) (l1 := []) (l2 := l) Tryz.underlying23 HI.out hz0 hz1 hz2 rfl (OwnL.fresh w (Nat.le_refl _)) rfl HS.out ?_ ?_ ?_) ?_)
    · simp only [List.length_nil, maxLen]; omega
    · simp only [List.length_nil]; omega
    · first | exact Nat.le_refl _ | simp
    · intro v' w' hO hg _
      have HO := hide hO
      have HB := hide (Below.grown (kalloc (Below.refl w.heap.size w) (.cells #[] 38)) hg (by simp) (fun k hk => by simp [Value.ownBlock] at hk; omega))
      clear hO hg
      go_wp2
      go_ret
      exact ⟨_, rfl, by simpa using HO.out, HB.out⟩
/-- a row of trades that lies in new memory -/
def RowV (base : Nat) (v : Value) (l : List Tr) (w : World) : Prop :=
  (v = .slice none 0 0 ∧ l = []) ∨ ∃ g cap, v = .slice (some ⟨g, 0, none⟩) l.length cap ∧ base ≤ g ∧ g < w.heap.size ∧ HoldsK trC 7 w g 0 l.toArray ∧ l.length ≤ cap ∧ cap ≤ 9223372036854775807
theorem trC_len (x : Tr) : (trC x).length = 7 := rfl
theorem OwnL.rowV {base : Nat} {v : Value} {l : List Tr} {w : World} (h : OwnL trC 7 38 w base v l) : RowV base v l w := by
  obtain ⟨⟨hl, h1⟩, hs⟩ := h
  rcases h1 with ⟨rfl, hn⟩ | ⟨g, cap, cur, rfl, hg, hh, hn, hc, hz, ht⟩
  · exact .inl ⟨rfl, List.length_eq_zero_iff.1 hn⟩
  · refine .inr ⟨g, cap, rfl, hg, (Array.getElem?_eq_some_iff.1 hh).1, fun t htt => ?_, hn, by simpa [maxLen] using hc⟩
    have ht7 : t < l.length * 7 := by simpa using htt
    have hq : t / 7 < l.length := by omega
    refine ⟨?_, by simp [World.frozen?, hh]⟩
    rw [get_flatK _ _ _ _ (by simpa using ht7)]
    have hx : l[t / 7]? = some (l[t / 7]) := List.getElem?_eq_getElem hq
    have hxm : l.toArray[t / 7]! = l[t / 7] := by rw [getElem!_pos l.toArray (t / 7) (by simpa using hq)]; simp
    rw [hxm]
    have hm : t % 7 < (trC l[t / 7]).length := by rw [trC_len]; omega
    rw [getElem!_pos (trC l[t / 7]) (t % 7) hm]
    have hfg := flat_get trC 7 l (t / 7) (t % 7) l[t / 7] _ (fun x _ => trC_len x) hx (List.getElem?_eq_getElem hm)
    rw [show t / 7 * 7 + t % 7 = t by omega] at hfg
    rw [← ht, List.getElem?_take_of_lt ht7] at hfg
    simp only [World.cell?, hh, Nat.zero_add]
    simpa using hfg
theorem RowV.sl {base : Nat} {v : Value} {l : List Tr} {w : World} (h : RowV base v l w) : SlV trC 7 w v l := by
  rcases h with ⟨rfl, rfl⟩ | ⟨g, cap, rfl, hg, hgw, hh, hn, hc⟩
  · exact ⟨none, 0, rfl, Sl.nil (by decide)⟩
  · refine ⟨some ⟨g, 0, none⟩, cap, rfl, hn, hc, fun x _ => trC_len x, fun _ => ⟨g, 0, rfl, hgw, fun i u hu => ?_⟩⟩
    obtain ⟨x, hx, hux⟩ := flat_get' trC 7 (by decide) l i u (fun x _ => trC_len x) hu
    have hq : i / 7 < l.length := (List.getElem?_eq_some_iff.1 hx).1
    have hi : i < l.length * 7 := by omega
    have := (hh i (by simpa using hi)).1
    rw [get_flatK _ _ _ _ (by simpa using hi)] at this
    rw [this]
    have hxm : l.toArray[i / 7]! = x := by rw [getElem!_pos l.toArray (i / 7) (by simpa using hq)]; simpa using (List.getElem?_eq_some_iff.1 hx).2
    rw [hxm]
    obtain ⟨hm, he⟩ := List.getElem?_eq_some_iff.1 hux
    show some (trC x)[i % 7]! = some u
    rw [getElem!_pos (trC x) (i % 7) hm, he]
theorem RowV.bel {base : Nat} {v : Value} {l : List Tr} {w w' : World} (h : RowV base v l w) (k : Below w.heap.size w w') : RowV base v l w' := by
  rcases h with h | ⟨g, cap, rfl, hg, hgw, hh, hn, hc⟩
  · exact .inl h
  · exact .inr ⟨g, cap, rfl, hg, Nat.lt_of_lt_of_le hgw k.size, HoldsK.bel hh hgw k, hn, hc⟩
theorem swk_grown {enc : Tr → List Value} {k : Nat} {w0 W : World} {blk off : Nat} {dk : Array Tr} (h : SWK enc k w0 blk off dk W) : w0.grownBy W (some blk) := by
  obtain ⟨n, os, rfl⟩ := h
  refine ⟨rfl, rfl, rfl, ?_, fun i hi hne => ?_⟩
  · unfold sortWorldK; rw [size_grow, size_putRowK]; show w0.heap.size ≤ w0.heap.size + _; omega
  · have hib : blk ≠ i := fun e => hne (by rw [e])
    have hsz : (putRowK enc k (Sort.ahead w0 n) blk off dk).heap.size = w0.heap.size := by rw [size_putRowK]; rfl
    unfold sortWorldK grow
    show ((putRowK enc k (Sort.ahead w0 n) blk off dk).heap ++ os)[i]? = _
    rw [Array.getElem?_append_left (by omega)]
    unfold putRowK putRow mapBlock
    rw [Array.getElem?_modify, if_neg hib]
    rfl
theorem below_row {w0 w w' : World} {g : Nat} (h : Below w0.heap.size w0 w) (hg : w.grownBy w' (some g)) (hb : w0.heap.size ≤ g) : Below w0.heap.size w0 w' := below_grown h hg hb
theorem stT : StT Tryz.prog 7 := {
  mixed := by kernel_rfl
  f64 := Tryz.func49
  f68 := Tryz.func62
  f69 := Tryz.func63
  f70 := Tryz.func80
  f71 := Tryz.func98
  t0 := Tryz.underlying0
  a0 := Tryz.isAgg0
  z0 := Tryz.sizeOf0
  v0 := Tryz.zeroValue0
  t3 := Tryz.underlying3
  a3 := Tryz.isAgg3
  z3 := Tryz.sizeOf3
  v3 := Tryz.zeroValue3
  t4 := Tryz.underlying4
  a4 := Tryz.isAgg4
  z4 := Tryz.sizeOf4
  v4 := Tryz.zeroValue4
  t23 := Tryz.underlying23
  a23 := Tryz.isAgg23
  z23 := Tryz.sizeOf23
  v23 := Tryz.zeroValue23
  t70 := Tryz.underlying54
  a70 := Tryz.isAgg54
  z70 := Tryz.sizeOf54
  v70 := Tryz.zeroValue54
  t89 := Tryz.underlying134
  a89 := Tryz.isAgg134
  z89 := Tryz.sizeOf134
  v89 := Tryz.zeroValue134
  aE := Tryz.isAgg38
  zE := Tryz.sizeOf38 }
/-- later, or known later -/
def latePr (at_ known : Int) (x : Tr) : Bool := decide (at_ < x.at_) || decide (known < x.known)
theorem late50 (x : Tr) (at_ known : Int) (a b : Nat) (w : World) (ha : Blk w a 3 #[.int .i64 at_]) (hb : Blk w b 3 #[.int .i64 known]) :
    Calls Tryz.prog 21 #[trV x, .pointer (some ⟨a, 0, none⟩), .pointer (some ⟨b, 0, none⟩)] w fun e w' => e = .returned (.bool (latePr at_ known x)) ∧ Below w.heap.size w w' := by
  have a0 := ha.cell (v := .int .i64 at_) 0 rfl
  have b0 := hb.cell (v := .int .i64 known) 0 rfl
  have al := ha.lt
  have bl := hb.lt
  have HE := hide (show latePr at_ known x = (decide (at_ < x.at_) || decide (known < x.known)) from rfl)
  generalize latePr at_ known x = R at HE ⊢
  obtain ⟨x1, x2, x3, x4, x5, x6, x7⟩ := x
  simp only [trV, trC] at *
  clear ha hb
  rcases Bool.eq_false_or_eq_true (decide (at_ < x2)) with g1 | g1
  · have HE : Hid (R = true) := hide (by rw [HE.out, g1]; rfl)
    go_enter Tryz.func21, Tryz.ntmps21
    go_wp2
    go_ret
    exact ⟨ret_bool HE.out.symm, kalloc (Below.refl _ _) _⟩
  · rcases Bool.eq_false_or_eq_true (decide (known < x3)) with g2 | g2
    · have HE : Hid (R = true) := hide (by rw [HE.out, g1, g2]; rfl)
      go_enter Tryz.func21, Tryz.ntmps21
      go_wp2
      go_ret
      exact ⟨ret_bool HE.out.symm, kalloc (Below.refl _ _) _⟩
    · have HE : Hid (R = false) := hide (by rw [HE.out, g1, g2]; rfl)
      go_enter Tryz.func21, Tryz.ntmps21
      go_wp2
      go_ret
      exact ⟨ret_bool HE.out.symm, kalloc (Below.refl _ _) _⟩
theorem isNaN65 (n : Int) (w : World) : Calls Tryz.prog 50 #[.int .i64 n] w fun e w' => e = .returned (.bool false) ∧ w = w' := by
  go_enter Tryz.func50, Tryz.ntmps50
  go_wp2
  go_ret
  exact ⟨by simp, rfl⟩
theorem compare53 (x y : Int) (w : World) : Calls Tryz.prog 24 #[.int .i64 x, .int .i64 y] w fun e w' => e = .returned (.int .i64 (cmpI x y)) ∧ w = w' := by
  have HE := hide (show cmpI x y = if x < y then -1 else if y < x then 1 else 0 from rfl)
  generalize cmpI x y = R at HE ⊢
  by_cases h1 : x < y
  · have HE2 := hide (HE.out.trans (if_pos h1))
    clear HE
    go_enter Tryz.func24, Tryz.ntmps24
    go_wp2_with (go_at_call 50; refine (isNaN65 _ _).mono ?_; rintro e w' ⟨rfl, rfl⟩)
    go_ret
    exact ⟨ret_int HE2.out.symm, rfl⟩
  · by_cases h2 : y < x
    · have HE2 := hide (HE.out.trans (by rw [if_neg h1, if_pos h2]))
      clear HE
      go_enter Tryz.func24, Tryz.ntmps24
      go_wp2_with (go_at_call 50; refine (isNaN65 _ _).mono ?_; rintro e w' ⟨rfl, rfl⟩)
      go_ret
      exact ⟨ret_int HE2.out.symm, rfl⟩
    · have HE2 := hide (HE.out.trans (by rw [if_neg h1, if_neg h2]))
      clear HE
      go_enter Tryz.func24, Tryz.ntmps24
      go_wp2_with (go_at_call 50; refine (isNaN65 _ _).mono ?_; rintro e w' ⟨rfl, rfl⟩)
      go_ret
      exact ⟨ret_int HE2.out.symm, rfl⟩
theorem cmp52 (x y : Tr) (w : World) : Calls Tryz.prog 23 #[trV x, trV y] w fun e w' => e = .returned (.int .i64 (cfT x y)) ∧ w' = (w.alloc (.cells (trC x).toArray 38)).alloc (.cells (trC y).toArray 38) := by
  have K := hide (fun w => compare53 x.at_ y.at_ w)
  rw [show cmpI x.at_ y.at_ = cfT x y from rfl] at K
  generalize cfT x y = r at K ⊢
  simp only [trV, trC] at *
  go_enter Tryz.func23, Tryz.ntmps23
  go_wp2_with (go_at_call 24; refine (K.out _).mono ?_; rintro e w' ⟨rfl, rfl⟩)
  go_ret
  exact ⟨rfl, rfl⟩
theorem cmpLays (blk size : Nat) (w : World) : CmpLays Tryz.prog 23 #[] trC 7 cfT blk 0 size w := by
  intro m os dk hs x y
  refine (cmp52 x y _).mono ?_
  rintro e w' ⟨he, hw⟩
  refine ⟨he, 0, #[.cells (trC x).toArray 38, .cells (trC y).toArray 38], ?_⟩
  rw [hw]
  show _ = Go.Sort.grow (sortWorldK trC 7 w blk 0 m dk os) _
  rw [Go.Sort.alloc_eq_grow, Go.Sort.alloc_eq_grow, Go.Sort.grow_grow]
  rfl
theorem nil48 (g : Nat) (cb : Array Value) (eg : ∀ args w, (callFunc g args).run Tryz.prog w = .ok (.enter g args) w) (w : World) : Calls Tryz.prog 19 #[.slice none 0 0, .func (.func g) #[] cb] w fun e w' => e = .returned (.slice none 0 0) ∧ Below w.heap.size w w' := by
  have K := hide (index63 (fun _ => false) g cb eg none 0 [] w (Sl.nil (by decide)) (fun x hx => by cases hx))
  simp only [List.length_nil, show ixGo (fun _ : Tr => false) [] 0 = -1 from rfl] at K
  go_enter Tryz.func19, Tryz.ntmps19
  go_wp2_with fail
  refine K.out.mono ?_
  rintro e w' ⟨rfl, hb⟩
  have HB := hide hb
  clear hb
  go_wp2
  go_ret
  exact ⟨rfl, HB.out⟩
theorem nil68 (fn : Value) (w : World) : Calls Tryz.prog 62 #[.slice none 0 0, .int .i64 0, .int .i64 0, fn] w fun e w' => e = .returned (.tuple #[]) ∧ w = w' := by
  go_enter Tryz.func62, Tryz.ntmps62
  go_wp2
  refine wp_loop_rounds 1 ?_
  rw [rounds_succ]
  go_wp2
  go_end0
  exact ⟨rfl, rfl⟩
theorem nil64 (fn : Value) (w : World) : Calls Tryz.prog 49 #[.slice none 0 0, .int .i64 0, fn] w fun e w' => e = .returned (.tuple #[]) ∧ w = w' := by
  go_enter Tryz.func49, Tryz.ntmps49
  go_wp2
  refine wp_loop_rounds 1 ?_
  rw [rounds_succ]
  go_wp2_with (go_at_call 62; refine (nil68 _ _).mono ?_; rintro e w' ⟨rfl, rfl⟩)
  refine wp_loop_rounds 1 ?_
  rw [rounds_succ]
  go_wp2
  go_end0
  exact ⟨rfl, rfl⟩
theorem nil51 (fn : Value) (w : World) : Calls Tryz.prog 22 #[.slice none 0 0, fn] w fun e w' => e = .returned (.tuple #[]) ∧ w = w' := by
  go_enter Tryz.func22, Tryz.ntmps22
  go_wp2_with (go_at_call 49; refine (nil64 _ _).mono ?_; rintro e w' ⟨rfl, rfl⟩)
  go_end0
  exact ⟨rfl, rfl⟩
end Go.Proofs.YtnngemgfochodaaGreat
namespace Go.Proofs.YtnngemgfochodaaGreat
open Go.RowKit Go.Mine Go.Mine.B Go.Sort Go.Shelf
theorem below_of_gb {base : Nat} {w w' : World} {g : Nat} (hg : w.grownBy w' (some g)) (hb : base ≤ g) (hw : base ≤ w.heap.size) : Below base w w' :=
  ⟨hg.os, hg.tape, hg.output, hg.size, fun k hk => hg.block k (by omega) (fun e => by have := Option.some.inj e; omega)⟩
theorem del48_row {base : Nat} {v : Value} {l : List Tr} {w : World} (h : RowV base v l w) (hw : base ≤ w.heap.size) (hl : l.length ≤ 1000000) {at_ known : Int} {a b : Nat} (ha : Blk w a 3 #[.int .i64 at_]) (hb : Blk w b 3 #[.int .i64 known]) (al : a < base) (bl : b < base) :
    Calls Tryz.prog 19 #[v, .func (.func 21) #[] #[.pointer (some ⟨a, 0, none⟩), .pointer (some ⟨b, 0, none⟩)]] w fun e w' => ∃ v', e = .returned v' ∧ RowV base v' (picks l at_ known) w' ∧ Below base w w' := by
  have e50 : ∀ args w, (callFunc 21 args).run Tryz.prog w = .ok (.enter 21 args) w := enters_of Tryz.func21 (by kernel_rfl) rfl
  have hpk : picks l at_ known = l.filter fun x => !latePr at_ known x := rfl
  rw [hpk]
  rcases h with ⟨rfl, rfl⟩ | ⟨g, cap, rfl, hg, hgw, hh, hn, hc⟩
  · refine (nil48 21 _ e50 w).mono ?_
    rintro e w' ⟨rfl, hb'⟩
    exact ⟨_, rfl, .inl ⟨rfl, rfl⟩, hb'.mono hw⟩
  · have hrow : RowV base (.slice (some ⟨g, 0, none⟩) l.length cap) l w := .inr ⟨g, cap, rfl, hg, hgw, hh, hn, hc⟩
    obtain ⟨A, c, hv, hS⟩ := hrow.sl
    cases hv
    have hix := index63 (latePr at_ known) 21 #[.pointer (some ⟨a, 0, none⟩), .pointer (some ⟨b, 0, none⟩)] e50 _ _ l w hS (fun x _ W hW => late50 x at_ known a b W (ha.bel hW) (hb.bel hW))
    have hd := delete48 (P := Tryz.prog) (k := 7) (enc := trC) (w := w) (blk := g) (d := l.toArray) stT Tryz.func19 (enters_of Tryz.func48 (by kernel_rfl) rfl) Tryz.underlying51 #[.int .i64 0, .int .i64 0, .int .i64 0, .int .i64 0, .int .i64 0, .int .i64 0, .int .i64 0] Tryz.zeroValue38 rfl
      (by intro v hv; simp at hv; rcases hv with rfl | rfl; rfl) trC_len tr_one (by decide) (latePr at_ known) 21 #[.pointer (some ⟨a, 0, none⟩), .pointer (some ⟨b, 0, none⟩)] e50 cap hh hgw (by simp; omega) (by simpa using hn) hc hix
      (fun x _ W hW => late50 x at_ known a b W (ha.grown hW (by simp; omega)) (hb.grown hW (by simp; omega)))
    refine Calls.mono hd ?_
    rintro e w' ⟨he, h1, h2⟩
    refine ⟨_, he, .inr ⟨g, cap, rfl, hg, Nat.lt_of_lt_of_le hgw h2.size, h1, ?_, hc⟩, below_of_gb h2 hg hw⟩
    exact Nat.le_trans (List.length_filter_le _ _) hn
theorem sort51_row {base : Nat} {v : Value} {l : List Tr} {w : World} (h : RowV base v l w) (hw : base ≤ w.heap.size) (hl : l.length ≤ 1000000) (hno : l.Pairwise fun x y => x.no < y.no) :
    Calls Tryz.prog 22 #[v, .func (.func 23) #[] #[]] w fun e w' => e = .returned (.tuple #[]) ∧ RowV base v (srt l) w' ∧ Below base w w' := by
  rcases h with ⟨rfl, rfl⟩ | ⟨g, cap, rfl, hg, hgw, hh, hn, hc⟩
  · refine (nil51 _ w).mono ?_
    rintro e w' ⟨rfl, rfl⟩
    exact ⟨rfl, .inl ⟨rfl, rfl⟩, Below.refl _ _⟩
  · have hs := stable51 (P := Tryz.prog) (k := 7) (enc := trC) (w0 := w) (blk := g) (off := 0) (d0 := l.toArray) stT Tryz.func22 ⟨trC_len, tr_one, hh, hgw⟩ (cmpLays g _ w) (enters_of Tryz.func23 (by kernel_rfl) rfl) (by simpa using hno) (by simp; omega) cap
    refine Calls.mono hs ?_
    rintro e w' ⟨he, d, h1, h2, h3, h4⟩
    have hsrt : srt l = d.toList := srt_one hno (by simpa using h3) h4
    have hlen : d.toList.length = l.length := by simpa using h3.length_eq
    rw [hsrt]
    have h2' : d.size = l.toArray.size := h2
    refine ⟨he, .inr ⟨g, cap, by rw [hlen], hg, Nat.lt_of_lt_of_le hgw (swk_grown h1).size, ?_, by omega, hc⟩, below_of_gb (swk_grown h1) hg hw⟩
    rw [Array.toArray_toList]
    exact h1.holds hgw hh h2'
end Go.Proofs.YtnngemgfochodaaGreat
namespace Go.Proofs.YtnngemgfochodaaGreat
open Go.RowKit Go.Mine Go.Mine.B
/-- 'm[k] = v' at a step of a region that draws -/
theorem step_put {P : Program} {w : World} {ops : Array Oper} {o : Oper} {a : Act} {KK : Act → World → Prop} {Q : Exit → Act → World → Prop} {E : Prop} (hg : o.guard = none) (mo x v : Operand) (t : TypeId)
    (hop : o.op = Op.mapUpdate t mo x v) {K e : TypeId} (hK : P.underlying K = some (.int .i64)) (ht : P.underlying t = some (.map K e)) {b n : Nat} {m : Int → Option Value} (hm : a.eval mo = .map (some b)) (h : MapI P K w b n m) (hn : n < maxLen) {k : Int} {val : Value} (hx : a.eval x = .int .i64 k) (hk : I64 k) (hv : a.eval v = val)
    (hK2 : ∀ w', MapI P K w' b (n + 1) (Go.Mine.upd m k val) → w.grownBy w' (some b) → KK (a.put o.dst undef) w') :
    if Region.wanted o (yielded ops a.tmps) = true then Oper.wp P o a w KK Q else E := by
  have hw : Region.wanted o (yielded ops a.tmps) = true := by simp [Region.wanted, hg]
  rw [if_pos hw]
  obtain ⟨w', hrun, r1, r2⟩ := h.put hK ht hn hk val
  unfold Oper.wp
  simp [execOp, hop, hm, hx, hv, hrun, Result.andThen]
  exact hK2 w' r1 r2
theorem qC_set (q : Q) (s : Nat) (hs : s < 4) (v : Int) : (qC q).toArray.setIfInBounds s (.int .i64 v) = (qC (qs q s v)).toArray := by
  have h : s = 0 ∨ s = 1 ∨ s = 2 ∨ s = 3 := by omega
  rcases h with rfl | rfl | rfl | rfl <;> rfl
theorem qC_get (q : Q) (s : Nat) (hs : s < 4) : (qC q).toArray[s]? = some (.int .i64 (qg q s)) := by
  have h : s = 0 ∨ s = 1 ∨ s = 2 ∨ s = 3 := by omega
  rcases h with rfl | rfl | rfl | rfl <;> rfl
set_option maxHeartbeats 8000000 in
set_option maxRecDepth 100000 in
theorem perform54 (b n : Nat) (p : Pu) (x : Tr) (w : World) (hM : MapI Tryz.prog 3 w b n (puM p)) (hn : n ≤ 1000000) (hf : I64 x.fr) (ht : I64 x.to) (hs : stage x.stg) (hms : 1 ≤ x.ms ∧ x.ms ≤ most) (hp : okP p) :
    Calls Tryz.prog 26 #[.map (some b), trV x] w fun e w' => e = .returned (.tuple #[]) ∧ MapI Tryz.prog 3 w' b (n + 2) (puM (perf p x)) ∧ w.grownBy w' (some b) := by
  obtain ⟨s, hsx⟩ : ∃ s : Nat, x.stg = (s : Int) := ⟨x.stg.toNat, by have := hs.1; omega⟩
  have hs4 : s < 4 := by have := hs.2; omega
  have HE := hide (show perf p x = if qg ((p x.fr).getD q0) x.stg < x.ms ∨ most < qg ((p x.to).getD q0) x.stg + x.ms then p else B.upd (B.upd p x.fr (qs ((p x.fr).getD q0) x.stg (qg ((p x.fr).getD q0) x.stg - x.ms))) x.to (qs ((p x.to).getD q0) x.stg (qg ((p x.to).getD q0) x.stg + x.ms)) from rfl)
  have bF := okQ_get (okP_get hp x.fr) x.stg
  have bT := okQ_get (okP_get hp x.to) x.stg
  have hMa := hM.alloc (.cells (trC x).toArray 38)
  have HM := hide hMa
  have KL1 := hide (fun W (h : MapI Tryz.prog 3 W b n (puM p)) => (show (Instr.lookup 56 (.map (some b)) (.int .i64 x.fr) false).run Tryz.prog W = .ok (qV ((p x.fr).getD q0)) W by have := h.look Tryz.underlying3 Tryz.underlying56 (Tryz.zeroValue28 _) hf; rw [show (Value.agg #[Value.int IntKind.i64 0, Value.int IntKind.i64 0, Value.int IntKind.i64 0, Value.int IntKind.i64 0]) = qV q0 from rfl, puM_get] at this; exact this))
  have KL2 := hide (fun W (h : MapI Tryz.prog 3 W b n (puM p)) => (show (Instr.lookup 56 (.map (some b)) (.int .i64 x.to) false).run Tryz.prog W = .ok (qV ((p x.to).getD q0)) W by have := h.look Tryz.underlying3 Tryz.underlying56 (Tryz.zeroValue28 _) ht; rw [show (Value.agg #[Value.int IntKind.i64 0, Value.int IntKind.i64 0, Value.int IntKind.i64 0, Value.int IntKind.i64 0]) = qV q0 from rfl, puM_get] at this; exact this))
  have XB := hide (Blk.new w (trC x).toArray 38)
  have HB := hide (kalloc (Below.refl w.heap.size w) (.cells (trC x).toArray 38))
  generalize perf p x = R at HE ⊢
  generalize (p x.fr).getD q0 = f at *
  generalize (p x.to).getD q0 = t at *
  rw [hsx] at HE bF bT
  clear hM hMa hp hs
  obtain ⟨x1, x2, x3, x4, x5, x6, x7⟩ := x
  simp only at hsx hf ht hms HE bF bT KL1 KL2
  subst hsx
  have hsz4 : (s : Int) < 4 := by omega
  simp only [trV, trC] at *
  go_enter Tryz.func26, Tryz.ntmps26
  go_wp2_with fail
  generalize hw1 : w.alloc (.cells #[.int .i64 x1, .int .i64 x2, .int .i64 x3, .int .i64 (s : Int), .int .i64 x5, .int .i64 x6, .int .i64 x7] 38) = w1 at *
  have hsz1 : w.heap.size < w1.heap.size := XB.out.lt
  have c4 := XB.out.cell (v := .int .i64 x5) 4 rfl
  have c5 := XB.out.cell (v := .int .i64 x6) 5 rfl
  have HW1 := hide hw1
  clear hw1
  refine wp_cut (fun a a' w' => ∃ p4 p5, a' = (((((((((a.put (some 6) (.map (some b))).put (some 7) (.pointer (some ⟨w.heap.size, 4, none⟩))).put (some 8) (.int .i64 x5)).put (some 9) (qV f)).put (some 10) (.map (some b))).put (some 11) (.pointer (some ⟨w.heap.size, 5, none⟩))).put (some 12) (.int .i64 x6)).put (some 13) (qV t)).put (some 4) (.pointer (some ⟨p4, 0, none⟩))).put (some 5) (.pointer (some ⟨p5, 0, none⟩)) ∧
      Blk w' p4 28 (qC f).toArray ∧ Blk w' p5 28 (qC t).toArray ∧ p4 ≠ p5 ∧ w1.heap.size ≤ p4 ∧ w1.heap.size ≤ p5 ∧ Below w1.heap.size w1 w') ?_ ?_
  · obtain ⟨f1, f2, f3, f4⟩ := f
    obtain ⟨t1, t2, t3, t4⟩ := t
    simp only [qV, qC] at *
    have L1 : ∀ W, MapI Tryz.prog 3 W b n (puM p) → (Instr.lookup 56 (Value.map (some b)) (Value.int IntKind.i64 x5) false).run Tryz.prog W = .ok (.agg #[.int .i64 f1, .int .i64 f2, .int .i64 f3, .int .i64 f4]) W := fun W h => KL1.out W h
    have L2 : ∀ W, MapI Tryz.prog 3 W b n (puM p) → (Instr.lookup 56 (Value.map (some b)) (Value.int IntKind.i64 x6) false).run Tryz.prog W = .ok (.agg #[.int .i64 t1, .int .i64 t2, .int .i64 t3, .int .i64 t4]) W := fun W h => KL2.out W h
    have m0 := HM.out.drew
    have m1 := (HM.out.alloc (.cells #[.int .i64 0, .int .i64 0, .int .i64 0, .int .i64 0] 28)).drew
    have m2 := ((HM.out.alloc (.cells #[.int .i64 0, .int .i64 0, .int .i64 0, .int .i64 0] 28)).alloc (.cells #[.int .i64 0, .int .i64 0, .int .i64 0, .int .i64 0] 28)).drew
    have m3 := ((HM.out.alloc (.cells #[.int .i64 f1, .int .i64 f2, .int .i64 f3, .int .i64 f4] 28)).alloc (.cells #[.int .i64 0, .int .i64 0, .int .i64 0, .int .i64 0] 28)).drew
    have m4 := ((HM.out.alloc (.cells #[.int .i64 0, .int .i64 0, .int .i64 0, .int .i64 0] 28)).alloc (.cells #[.int .i64 f1, .int .i64 f2, .int .i64 f3, .int .i64 f4] 28)).drew
    have a0 := L1 _ m0
    have a1 := L1 _ m1
    have a2 := L1 _ m2
    have b0 := L2 _ m0
    have b1 := L2 _ m1
    have b2 := L2 _ m2
    have b3 := L2 _ m3
    have b4 := L2 _ m4
    clear L1 L2 m0 m1 m2 m3 m4
    go_region
    all_goals
      first
      | exact ⟨w1.heap.size, w1.heap.size + 1, by kernel_rfl, ((Blk.new w1 _ _).alloc _).drew, (Blk.new' (by simp)).drew, by omega, Nat.le_refl _, by omega, (kalloc (kalloc (Below.refl _ _) _) _).drew⟩
      | exact ⟨w1.heap.size + 1, w1.heap.size, by kernel_rfl, (Blk.new' (by simp)).drew, ((Blk.new w1 _ _).alloc _).drew, by omega, by omega, Nat.le_refl _, (kalloc (kalloc (Below.refl _ _) _) _).drew⟩
  · rintro a' w2 ⟨p4, p5, rfl, B4, B5, h45, h4w, h5w, hb2⟩
    have HM2 := hide (HM.out.bel hb2)
    have X2 := hide (XB.out.bel hb2)
    have HB2 := hide (kcall HB.out hb2)
    have d3 := X2.out.cell (v := .int .i64 (s : Int)) 3 rfl
    have d4 := X2.out.cell (v := .int .i64 x5) 4 rfl
    have d5 := X2.out.cell (v := .int .i64 x6) 5 rfl
    have d6 := X2.out.cell (v := .int .i64 x7) 6 rfl
    have e4 := B4.cell s (qC_get f s hs4)
    have e5 := B5.cell s (qC_get t s hs4)
    have hx2 := X2.out.lt
    clear c4 c5 hb2
    rename_i KK9 h9
    refine h9 _ _ ?_
    clear h9
    generalize hqf : qg f (s : Int) = fs at *
    generalize hqt : qg t (s : Int) = ts at *
    have HQ := hide (And.intro hqf hqt)
    clear hqf hqt
    have hm1 : (most : Int) = 1073741824 := rfl
    rw [hm1] at HE bF bT hms
    have hadd : IntKind.i64.wrap (ts + x7) = ts + x7 := by rw [IntKind.wrap_i64]; omega
    have hsub : IntKind.i64.wrap (fs - x7) = fs - x7 := by rw [IntKind.wrap_i64]; omega
    have HBD := hide (And.intro bF (And.intro bT hms))
    clear bF bT hms
    rcases Bool.eq_false_or_eq_true (decide (fs < x7)) with g1 | g1
    · have HE2 := hide (HE.out.trans (if_pos (.inl (of_decide_eq_true g1))))
      clear HE
      go_wp2_with fail
      refine wp_still_all (by kernel_rfl) (by kernel_rfl) ?_
      repeat ((with_reducible refine wpStill_step (fun K hK => ?_)); go_simp; (try go_bits); (with_reducible refine hK _ ?_); clear hK K)
      (with_reducible refine wpStill_nil ?_)
      go_wp2
      (try simp only [Exit.inBlock, Exit.then])
      refine bodyPost_ret (results_none rfl _ _ _) rfl ?_
      exact ⟨rfl, by rw [HE2.out]; exact (HM2.out.drew).mono (by omega), gb_below HB2.out.drew _⟩
    · rcases Bool.eq_false_or_eq_true (decide (1073741824 < ts + x7)) with g2 | g2
      · have HE2 := hide (HE.out.trans (if_pos (.inr (of_decide_eq_true g2))))
        clear HE
        go_wp2_with fail
        refine wp_still_all (by kernel_rfl) (by kernel_rfl) ?_
        repeat ((with_reducible refine wpStill_step (fun K hK => ?_)); go_simp; (try go_bits); (with_reducible refine hK _ ?_); clear hK K)
        (with_reducible refine wpStill_nil ?_)
        go_wp2
        (try simp only [Exit.inBlock, Exit.then])
        refine bodyPost_ret (results_none rfl _ _ _) rfl ?_
        exact ⟨rfl, by rw [HE2.out]; exact (HM2.out.drew).mono (by omega), gb_below HB2.out.drew _⟩
      · have HE2 := hide (HE.out.trans (if_neg (by intro hc; rcases hc with hc | hc; exact of_decide_eq_false g1 hc; exact of_decide_eq_false g2 hc)))
        have f4 := B4.thaw s
        have HB4 := hide (B4.drew.drew.set s (.int .i64 (fs - x7)) (qC_set f s hs4 (fs - x7)))
        have HB5 := hide (B5.drew.drew.far ⟨p4, s, none⟩ (.int .i64 (fs - x7)) (by show p5 ≠ p4; omega))
        have HX3 := hide (X2.out.drew.drew.far ⟨p4, s, none⟩ (.int .i64 (fs - x7)) (by show w.heap.size ≠ p4; omega))
        have HM3 := hide (HM2.out.drew.drew.setCell (a := ⟨p4, s, none⟩) (by show b ≠ p4; exact fun e => map_notcells HM2.out B4 e.symm) (.int .i64 (fs - x7)))
        have HG3 := hide (HB2.out.drew.drew.setCell (p := ⟨p4, s, none⟩) (by show w.heap.size ≤ p4; omega) (.int .i64 (fs - x7)))
        clear HE
        go_wp2_with fail
        refine wp_still_all (by kernel_rfl) (by kernel_rfl) ?_
        repeat ((with_reducible refine wpStill_step (fun K hK => ?_)); go_simp; (try go_bits); (with_reducible refine hK _ ?_); clear hK K)
        (with_reducible refine wpStill_nil ?_)
        go_wp2_with fail
        refine wp_still_tail 7 (by kernel_rfl) (by kernel_rfl) ?_
        simp only [List.take_succ_cons, List.take_zero, List.drop_succ_cons, List.drop_zero]
        repeat ((with_reducible refine wpStill_step (fun K hK => ?_)); go_simp; (try go_bits); (with_reducible refine hK _ ?_); clear hK K)
        (with_reducible refine wpStill_nil ?_)
        go_wp2_with fail
        refine at_world (fun w3 => Blk w3 p4 28 (qC (qs f s (fs - x7))).toArray ∧ Blk w3 p5 28 (qC t).toArray ∧ Blk w3 w.heap.size 38 #[.int .i64 x1, .int .i64 x2, .int .i64 x3, .int .i64 (s : Int), .int .i64 x5, .int .i64 x6, .int .i64 x7] ∧ MapI Tryz.prog 3 w3 b n (puM p) ∧ Below w.heap.size w w3) ⟨HB4.out, HB5.out, HX3.out, HM3.out, HG3.out⟩ ?_
        clear B4 B5 d3 d4 d5 d6 e4 e5 hx2 f4 HB4 HB5 HX3 HM3 HG3 HM2 X2 HB2 HM XB HB HW1
        rintro w3 ⟨B4, B5, X3, M3, G3⟩
        have d3 := X3.cell (v := .int .i64 (s : Int)) 3 rfl
        have d4 := X3.cell (v := .int .i64 x5) 4 rfl
        have d5 := X3.cell (v := .int .i64 x6) 5 rfl
        have d6 := X3.cell (v := .int .i64 x7) 6 rfl
        have e5 := B5.cell s (by rw [qC_get t s hs4, HQ.out.2])
        have f5 := B5.thaw s
        have hx3 := X3.lt
        have HB4 := hide (B4.drew.far ⟨p5, s, none⟩ (.int .i64 (ts + x7)) (by show p4 ≠ p5; omega))
        have HB5 := hide (B5.drew.set s (.int .i64 (ts + x7)) (qC_set t s hs4 (ts + x7)))
        have HX4 := hide (X3.drew.far ⟨p5, s, none⟩ (.int .i64 (ts + x7)) (by show w.heap.size ≠ p5; omega))
        have HM4 := hide (M3.drew.setCell (a := ⟨p5, s, none⟩) (by show b ≠ p5; exact fun e => map_notcells M3 B5 e.symm) (.int .i64 (ts + x7)))
        have HG4 := hide (G3.drew.setCell (p := ⟨p5, s, none⟩) (by show w.heap.size ≤ p5; omega) (.int .i64 (ts + x7)))
        refine wp_still_tail 7 (by kernel_rfl) (by kernel_rfl) ?_
        simp only [List.take_succ_cons, List.take_zero, List.drop_succ_cons, List.drop_zero]
        repeat ((with_reducible refine wpStill_step (fun K hK => ?_)); go_simp; (try go_bits); (with_reducible refine hK _ ?_); clear hK K)
        (with_reducible refine wpStill_nil ?_)
        go_wp2_with fail
        refine at_world (fun w3 => Blk w3 p4 28 (qC (qs f s (fs - x7))).toArray ∧ Blk w3 p5 28 (qC (qs t s (ts + x7))).toArray ∧ Blk w3 w.heap.size 38 #[.int .i64 x1, .int .i64 x2, .int .i64 x3, .int .i64 (s : Int), .int .i64 x5, .int .i64 x6, .int .i64 x7] ∧ MapI Tryz.prog 3 w3 b n (puM p) ∧ Below w.heap.size w w3) ⟨HB4.out, HB5.out, HX4.out, HM4.out, HG4.out⟩ ?_
        clear B4 B5 d3 d4 d5 d6 e5 f5 hx3 HB4 HB5 HX4 HM4 HG4 X3 M3 G3 HQ g1 g2 hadd hsub
        clear w3
        rintro w4 ⟨B4, B5, X4, M4, G4⟩
        generalize qs f s (fs - x7) = F at *
        generalize qs t s (ts + x7) = T at *
        obtain ⟨F1, F2, F3, F4⟩ := F
        obtain ⟨T1, T2, T3, T4⟩ := T
        simp only [qC] at B4 B5
        have d4 := X4.cell (v := .int .i64 x5) 4 rfl
        have d5 := X4.cell (v := .int .i64 x6) 5 rfl
        have k0 := B4.cell (v := .int .i64 F1) 0 rfl
        have k1 := B4.cell (v := .int .i64 F2) 1 rfl
        have k2 := B4.cell (v := .int .i64 F3) 2 rfl
        have k3 := B4.cell (v := .int .i64 F4) 3 rfl
        have l0 := B5.cell (v := .int .i64 T1) 0 rfl
        have l1 := B5.cell (v := .int .i64 T2) 1 rfl
        have l2 := B5.cell (v := .int .i64 T3) 2 rfl
        have l3 := B5.cell (v := .int .i64 T4) 3 rfl
        have ne4 : some p4 ≠ some b := fun e => map_notcells M4 B4 (Option.some.inj e)
        have ne5 : some p5 ≠ some b := fun e => map_notcells M4 B5 (Option.some.inj e)
        have neX : some w.heap.size ≠ some b := fun e => map_notcells M4 X4 (Option.some.inj e)
        have yX := X4.lt
        have y4 := B4.lt
        have y5 := B5.lt
        have HMM := hide M4
        have HGG := hide G4
        clear B4 B5 X4 M4 G4
        obtain ⟨w5, r5, hM5, hg5⟩ := HMM.out.drew.put Tryz.underlying3 Tryz.underlying56 (by unfold maxLen; omega) hf (qV (F1, F2, F3, F4))
        obtain ⟨w6, r6, hM6, hg6⟩ := hM5.put Tryz.underlying3 Tryz.underlying56 (by unfold maxLen; omega) ht (qV (T1, T2, T3, T4))
        simp only [qV, qC] at r5 r6
        have f0 := gcell hg5 yX neX d4
        have f1 := gcell hg5 yX neX d5
        have f2 := gcell hg5 y4 ne4 k0
        have f3 := gcell hg5 y4 ne4 k1
        have f4 := gcell hg5 y4 ne4 k2
        have f5 := gcell hg5 y4 ne4 k3
        have f6 := gcell hg5 y5 ne5 l0
        have f7 := gcell hg5 y5 ne5 l1
        have f8 := gcell hg5 y5 ne5 l2
        have f9 := gcell hg5 y5 ne5 l3
        have HMF := hide (show MapI Tryz.prog 3 w6 b (n + 2) (puM R) by
          rw [HE2.out, ← puM_upd, ← puM_upd]
          exact hM6)
        have HGF := hide (gb_trans (gb_trans (gb_below HGG.out.drew (some b)) hg5) hg6)
        clear hM5 hM6 hg5 hg6
        go_region
        all_goals go_wp2
        all_goals go_end0
        all_goals exact ⟨rfl, HMF.out, HGF.out⟩
end Go.Proofs.YtnngemgfochodaaGreat
namespace Go.Proofs.YtnngemgfochodaaGreat
open Go.RowKit Go.Mine Go.Mine.B Go.Sort Go.Shelf
attribute [local go_sem] Oper.semAt_some
def argA (at_ known : Int) : Bool := inR at_ 0 1099511627775 && inR known 0 1099511627775
def standL (b : List Bu) (l : List Tr) (at_ known : Int) : List Bu := if chk 400 b l = 0 ∧ argA at_ known = true then standing b l at_ known else []
def standE (b : List Bu) (l : List Tr) (at_ known : Int) : Int := if chk 400 b l = 0 then (if argA at_ known = true then 0 else 1) else chk 400 b l
/-- a slice that reads so, and a number -/
def SlE {α : Type} (f : α → List Value) (sz : Nat) (L : List α) (E : Int) (w : World) (e : Ending) (w' : World) : Prop :=
  ∃ A' c', e = .returned (.tuple #[.slice A' L.length c', .int .i64 E]) ∧ Sl f sz w' A' c' L ∧ Below w.heap.size w w'
theorem SlE.nil {α : Type} {f : α → List Value} {sz : Nat} {E : Int} {w w' : World} (hb : Below w.heap.size w w') : SlE f sz ([] : List α) E w (.returned (.tuple #[.slice none 0 0, .int .i64 E])) w' :=
  ⟨none, 0, rfl, Sl.nil (by decide), hb⟩
theorem stand_ok {b : List Bu} {l : List Tr} {at_ known : Int} (hz : chk 400 b l = 0) (ha : argA at_ known = true) : standL b l at_ known = standing b l at_ known ∧ standE b l at_ known = 0 := by simp [standL, standE, hz, ha]
theorem stand_arg {b : List Bu} {l : List Tr} {at_ known : Int} (hz : chk 400 b l = 0) (ha : argA at_ known = false) : standL b l at_ known = [] ∧ standE b l at_ known = 1 := by simp [standL, standE, hz, ha]
theorem stand_bad {b : List Bu} {l : List Tr} {at_ known : Int} (hz : chk 400 b l ≠ 0) : standL b l at_ known = [] ∧ standE b l at_ known = chk 400 b l := by simp [standL, standE, hz]
theorem Sl.grownM {α : Type} {f : α → List Value} {sz : Nat} {w w' : World} {A : Option Addr} {c : Nat} {l : List α} (h : Sl f sz w A c l) {K : TypeId} {b n : Nat} {m : Int → Option Value} (hM : MapI Tryz.prog K w b n m) (hg : w.grownBy w' (some b)) : Sl f sz w' A c l :=
  ⟨h.le, h.max, h.size, fun hn => by
    obtain ⟨g, off, e, hgw, hc⟩ := h.cells hn
    refine ⟨g, off, e, Nat.lt_of_lt_of_le hgw hg.size, fun i v hv => ?_⟩
    have h1 := hc i v hv
    exact gcell hg hgw (fun e => map_apart hM h1 (Option.some.inj e)) h1⟩
/-- what is asked of arguments -/
def buS (b : List Bu) : Prop := ∀ y ∈ b, I64 y.lang
def trS (l : List Tr) : Prop := ∀ x ∈ l, I64 x.fr ∧ I64 x.to
theorem chk_zero' {b : List Bu} {l : List Tr} (h : chk 400 b l = 0) : chkB b l = true ∧ b.length ≤ 32 ∧ l.length ≤ 4096 := (chk_zero (by decide)).1 h
theorem standing20_bad (A : Option Addr) (c : Nat) (b : List Bu) (B : Option Addr) (d : Nat) (l : List Tr) (at_ known : Int) (w : World) (hS : Sl buC 5 w A c b) (hT : Sl trC 7 w B d l) (hI : buS b) (hJ : trS l) (hz : chk 400 b l ≠ 0) :
    Calls Tryz.prog 7 #[.slice A b.length c, .slice B l.length d, .int .i64 at_, .int .i64 known] w (SlE buC 5 [] (chk 400 b l) w) := by
  have hb0 : Below w.heap.size w ((w.alloc (.cells #[.int .i64 at_] 3)).alloc (.cells #[.int .i64 known] 3)) := kalloc (kalloc (Below.refl _ _) _) _
  have K := hide (check18 A c b B d l _ (hS.bel hb0) (hT.bel hb0) hI hJ)
  have HB0 := hide hb0
  generalize chk 400 b l = C at *
  have gc : (C != 0) = true := by simpa using hz
  clear hS hT hb0 hz
  go_enter Tryz.func7, Tryz.ntmps7
  go_wp2_with fail
  refine K.out.mono ?_
  rintro e w1 ⟨rfl, hb⟩
  have HB := hide (kcall HB0.out hb)
  clear hb
  go_wp2
  exact bodyPost_ret (v := .tuple #[.slice none 0 0, .int .i64 _]) (by simp [results, Tryz.results7, go_sem]) rfl (SlE.nil HB.out)
theorem standing20_arg (A : Option Addr) (c : Nat) (b : List Bu) (B : Option Addr) (d : Nat) (l : List Tr) (at_ known : Int) (w : World) (hS : Sl buC 5 w A c b) (hT : Sl trC 7 w B d l) (hI : buS b) (hJ : trS l) (hz : chk 400 b l = 0) (ha : argA at_ known = false) :
    Calls Tryz.prog 7 #[.slice A b.length c, .slice B l.length d, .int .i64 at_, .int .i64 known] w (SlE buC 5 [] 1 w) := by
  have hb0 : Below w.heap.size w ((w.alloc (.cells #[.int .i64 at_] 3)).alloc (.cells #[.int .i64 known] 3)) := kalloc (kalloc (Below.refl _ _) _) _
  have K := hide (check18 A c b B d l _ (hS.bel hb0) (hT.bel hb0) hI hJ)
  rw [hz] at K
  have HB0 := hide hb0
  have B6 := (Blk.new w #[.int .i64 at_] 3).alloc (.cells #[.int .i64 known] 3)
  have B7 : Blk ((w.alloc (.cells #[.int .i64 at_] 3)).alloc (.cells #[.int .i64 known] 3)) (w.heap.size + 1) 3 #[.int .i64 known] := Blk.new1 w _ _ _
  have K1 := hide (fun w => within34 at_ 0 1099511627775 w)
  have K2 := hide (fun w => within34 known 0 1099511627775 w)
  unfold argA at ha
  generalize inR at_ 0 1099511627775 = r1 at *
  generalize inR known 0 1099511627775 = r2 at *
  clear hS hT hb0 hz
  have hc : r1 = false ∨ (r1 = true ∧ r2 = false) := by cases r1 <;> simp_all
  clear ha
  rcases hc with rfl | ⟨rfl, rfl⟩
  all_goals
    go_enter Tryz.func7, Tryz.ntmps7
    go_wp2_with fail
    generalize (w.alloc (.cells #[.int .i64 at_] 3)).alloc (.cells #[.int .i64 known] 3) = w0 at *
    refine K.out.mono ?_
    rintro e w1 ⟨rfl, hb⟩
    have HB := hide (kcall HB0.out hb)
    have c6 := (B6.bel hb).cell (v := .int .i64 at_) 0 rfl
    have c7 := (B7.bel hb).cell (v := .int .i64 known) 0 rfl
    clear hb B6 B7
    go_wp2_with (first | (go_at_call 14; with_reducible refine (K1.out _).mono ?_; rintro e w' ⟨rfl, rfl⟩) | (go_at_call 14; with_reducible refine (K2.out _).mono ?_; rintro e w' ⟨rfl, rfl⟩))
    exact bodyPost_ret (v := .tuple #[.slice none 0 0, .int .i64 _]) (by simp [results, Tryz.results7, go_sem]) rfl (SlE.nil HB.out)
set_option maxHeartbeats 8000000 in
set_option maxRecDepth 100000 in
theorem standing20_good (A : Option Addr) (c : Nat) (b : List Bu) (B : Option Addr) (d : Nat) (l : List Tr) (at_ known : Int) (w : World) (hS : Sl buC 5 w A c b) (hT : Sl trC 7 w B d l) (hI : buS b) (hJ : trS l) (hz : chk 400 b l = 0) (ha : argA at_ known = true) :
    Calls Tryz.prog 7 #[.slice A b.length c, .slice B l.length d, .int .i64 at_, .int .i64 known] w (SlE buC 5 (standing b l at_ known) 0 w) := by
  obtain ⟨hcb, hbl, hll⟩ := chk_zero' hz
  obtain ⟨p1, p2, p3, p4⟩ := chkB_parts hcb
  have hb0 : Below w.heap.size w ((w.alloc (.cells #[.int .i64 at_] 3)).alloc (.cells #[.int .i64 known] 3)) := kalloc (kalloc (Below.refl _ _) _) _
  have K := hide (check18 A c b B d l _ (hS.bel hb0) (hT.bel hb0) hI hJ)
  rw [hz] at K
  have HB0 := hide hb0
  have B6 := (Blk.new w #[.int .i64 at_] 3).alloc (.cells #[.int .i64 known] 3)
  have B7 : Blk ((w.alloc (.cells #[.int .i64 at_] 3)).alloc (.cells #[.int .i64 known] 3)) (w.heap.size + 1) 3 #[.int .i64 known] := Blk.new1 w _ _ _
  have hbz : w.heap.size + 2 ≤ ((w.alloc (.cells #[.int .i64 at_] 3)).alloc (.cells #[.int .i64 known] 3)).heap.size := by simp
  have K1 := hide (fun w => within34 at_ 0 1099511627775 w)
  have K2 := hide (fun w => within34 known 0 1099511627775 w)
  unfold argA at ha
  simp only [Bool.and_eq_true] at ha
  rw [ha.1] at K1
  rw [ha.2] at K2
  have KC := hide (fun W (h : Below w.heap.size w W) => clone49 B d l W (hT.bel h) (by omega))
  have KO := hide (fun W (h : Below w.heap.size w W) => of37 A c b W (hS.bel h) hI (by omega))
  have HP := hide (And.intro p1 (And.intro p2 (And.intro p3 p4)))
  have HS := hide hS
  have hlb := hS.le
  have hmb := hS.max
  clear hS hT hb0 hz ha p1 p2 p3 p4
  go_enter Tryz.func7, Tryz.ntmps7
  go_wp2_with fail
  generalize (w.alloc (.cells #[.int .i64 at_] 3)).alloc (.cells #[.int .i64 known] 3) = w0 at *
  refine K.out.mono ?_
  rintro e w1 ⟨rfl, hb⟩
  have HB1 := hide (kcall HB0.out hb)
  replace B6 := B6.bel hb
  replace B7 := B7.bel hb
  have c6 := B6.cell (v := .int .i64 at_) 0 rfl
  have c7 := B7.cell (v := .int .i64 known) 0 rfl
  have hz1 : w.heap.size + 2 ≤ w1.heap.size := Nat.le_trans hbz hb.size
  clear hb K HB0 hbz
  go_wp2_with (first | (go_at_call 14; with_reducible refine (K1.out _).mono ?_; rintro e w' ⟨rfl, rfl⟩) | (go_at_call 14; with_reducible refine (K2.out _).mono ?_; rintro e w' ⟨rfl, rfl⟩))
  refine (KC.out _ HB1.out).mono ?_
  rintro e w2 ⟨v, rfl, hO, hb⟩
  have HR2 := hide (OwnL.rowV hO)
  replace B6 := B6.bel hb
  replace B7 := B7.bel hb
  have HB2 := hide (kcall HB1.out hb)
  have hz2 := hb.size
  clear hO hb KC c6 c7 K1 K2
  go_wp2_with fail
  refine (del48_row HR2.out hz2 (by omega) B6 B7 (by omega) (by omega)).mono ?_
  rintro e w3 ⟨v', rfl, hR3, hb⟩
  have hlp : (picks l at_ known).length ≤ l.length := List.length_filter_le _ _
  have HR3 := hide hR3
  have HB3 := hide (show Below w.heap.size w w3 from HB2.out.trans (hb.mono (by omega)))
  have hz3 : w1.heap.size ≤ w3.heap.size := Nat.le_trans hz2 hb.size
  clear hR3 hb B6 B7 HR2
  go_wp2_with fail
  refine (sort51_row HR3.out hz3 (by omega) (pair_picks HP.out.2.2.2 at_ known)).mono ?_
  rintro e w4 ⟨rfl, hR4, hb⟩
  have HB4 := hide (show Below w.heap.size w w4 from HB3.out.trans (hb.mono (by omega)))
  have hls : (srt (picks l at_ known)).length = (picks l at_ known).length := (srt_is (pair_picks HP.out.2.2.2 at_ known)).1.length_eq
  have HX := hide (show ∀ x ∈ srt (picks l at_ known), x ∈ l from fun x hx => (List.mem_filter.1 (srt_mem _ x hx)).1)
  have HF := hide (show standing b l at_ known = viewB b ((srt (picks l at_ known)).foldl perf (ofB b)) from rfl)
  obtain ⟨C, cc, rfl, hSr⟩ := hR4.sl
  have HSr := hide hSr
  clear hR4 hb HR3 hSr
  generalize srt (picks l at_ known) = s at *
  generalize standing b l at_ known = L at *
  have hsl : s.length ≤ 4096 := by omega
  clear hls hlp
  go_wp2_with fail
  refine (KO.out _ HB4.out).mono ?_
  rintro e w5 ⟨rfl, hM, hb⟩
  have HM5 := hide hM
  have HB5 := hide (kcall HB4.out hb)
  have HS5 := hide (HSr.out.bel hb)
  have hM4 : w.heap.size ≤ w4.heap.size := HB4.out.size
  have hcc := HS5.out.le
  have hcm := HS5.out.max
  clear hM hb KO HSr HB4
  generalize w4.heap.size = M at *
  have hM5 := hide (show w.heap.size ≤ M from hM4)
  go_wp2
  go_loopw [13, 40] (fun _ i wr => ∃ (k : Nat) (p : Pu), k ≤ s.length ∧ i = .int .i64 k ∧ Hid (s.foldl perf (ofB b) = (s.drop k).foldl perf p) ∧ Hid (okP p) ∧ Hid (MapI Tryz.prog 3 wr M (b.length + 2 * k) (puM p)) ∧ Hid (Sl trC 7 wr C cc s) ∧ Hid (Below w.heap.size w wr)) (fun _ i _ => s.length - (nI i).toNat)
  case atStart => exact ⟨0, ofB b, Nat.zero_le _, rfl, rfl, okP_of HP.out.1, HM5, HS5, HB5⟩
  case round =>
    obtain ⟨k, p, hk, rfl, HQ, HO, HM, HSr, HB⟩ := hrel
    by_cases hlt : k < s.length
    · obtain ⟨x, g, off, hx, hdr, rfl, hgw, c0, c1, c2, c3, c4, c5, c6⟩ := Sl.tr_at HSr.out hlt
      have hxl := HX.out x (List.mem_of_getElem? hx)
      obtain ⟨_, _, _, rs, rm1, rm2⟩ := rightT_parts (HP.out.2.2.1 x hxl)
      have HM2 := hide (HM.out.alloc (.cells (trC x).toArray 38))
      have KP := hide (perform54 M (b.length + 2 * k) p x _ HM2.out (by omega) (hJ x hxl).1 (hJ x hxl).2 rs ⟨rm1, rm2⟩ HO.out)
      have HO2 := hide (okP_perf HO.out rm1)
      have hq := HQ.out
      rw [hdr, List.foldl_cons] at hq
      have HQ2 := hide hq
      have HB2 := hide (kalloc HB.out (.cells (trC x).toArray 38))
      have HSr2 := hide (HSr.out.alloc (.cells (trC x).toArray 38))
      generalize perf p x = p' at *
      obtain ⟨x1, x2, x3, x4, x5, x6, x7⟩ := x
      simp only [trV, trC] at *
      clear hx hdr hq HQ rs rm1 rm2 hxl HO
      go_wp2_with fail
      refine KP.out.mono ?_
      rintro e w9 ⟨rfl, hM9, hg9⟩
      have HM9 := hide hM9
      have HB9 := hide (below_grown HB2.out hg9 hM4)
      have HSr9 := hide (Sl.grownM HSr2.out HM2.out hg9)
      clear hM9 hg9 c0 c1 c2 c3 c4 c5 c6
      go_wp2
      go_roundw
      case rel => exact ⟨k + 1, p', by omega, by go_num, HQ2, HO2, HM9, HSr9, HB9⟩
      case measure => simp [nI]; omega
    · obtain rfl : k = s.length := by omega
      have hq := HQ.out
      rw [List.drop_length] at hq
      have HQ2 := hide (HF.out.trans (congrArg (viewB b) (hq.trans (show ([] : List Tr).foldl perf p = p from rfl))))
      obtain ⟨i0, hi, hi0, hi1, hi2⟩ := info_parts Try_info30
      have HI := hide hi
      clear hq HQ HF HO hi
      go_wp2
      go_loopw [8, 15, 50] (fun v _ i w2 => ∃ k : Nat, k ≤ b.length ∧ i = .int .i64 k ∧ Hid (OwnL buC 5 30 w2 w.heap.size v (viewB (b.take k) p)) ∧ (∀ g, v.ownBlock = some g → g ≠ M) ∧ Hid (MapI Tryz.prog 3 w2 M (b.length + 2 * s.length) (puM p)) ∧ Hid (Below w.heap.size w w2)) (fun _ _ i _ => b.length - (nI i).toNat)
      case atStart => exact ⟨0, Nat.zero_le _, rfl, OwnL.nil _ _ _ _ _, by simp [Value.ownBlock], HM, HB⟩
      case round =>
        obtain ⟨k, hk, rfl, HO, hvM, HM, HB⟩ := hrel
        by_cases hlt : k < b.length
        · obtain ⟨y, g, off, hy, hdr, rfl, hgw, c0, c1, c2, c3, c4⟩ := Sl.bu_at (HS.out.bel HB.out) hlt
          have hyl := hI y (List.mem_of_getElem? hy)
          have hM2 := HM.out.alloc (.cells (buC y).toArray 30)
          have hl1 := hM2.look Tryz.underlying3 Tryz.underlying56 (Tryz.zeroValue28 _) hyl
          rw [show (Value.agg #[Value.int IntKind.i64 0, Value.int IntKind.i64 0, Value.int IntKind.i64 0, Value.int IntKind.i64 0]) = qV q0 from rfl, puM_get] at hl1
          have HT := hide (show viewB (b.take (k + 1)) p = viewB (b.take k) p ++ [⟨y.lang, (p y.lang).getD q0⟩] by rw [take_of_get hy]; unfold viewB; simp)
          have hvl : (viewB (b.take k) p).length = k := by rw [view_len]; simp; omega
          generalize viewB (b.take k) p = vl at *
          generalize (p y.lang).getD q0 = q at *
          have HB2 := hide (kalloc (kalloc HB.out (.cells (buC y).toArray 30)) (.cells (buC ⟨y.lang, q⟩).toArray 30))
          have HM3 := hide (hM2.alloc (.cells (buC ⟨y.lang, q⟩).toArray 30))
          have HO2 := hide ((HO.out.alloc (.cells (buC y).toArray 30)).alloc (.cells (buC ⟨y.lang, q⟩).toArray 30))
          have hwz := HB.out.size
          have hMz := HM.out.lt
          obtain ⟨y1, y2, y3, y4, y5⟩ := y
          obtain ⟨q1, q2, q3, q4⟩ := q
          simp only [qV, qC, buC] at *
          clear hy hdr hyl hM2 HM HB HO
          go_wp2_with (at_builtin; refine wpList_push (f := buC) (y := ⟨y1, (q1, q2, q3, q4)⟩) (l := vl) rfl (.tmp 54) (.tmp 62) 22 rfl Tryz.underlying22 HI.out hi0 hi1 hi2 rfl (by decide) rfl HO2.out rfl (new_row1 _ _ _) rfl rfl ?_ ?_ ?_ ?_ ?_)
          · intro u hu; simp [buC] at hu; rcases hu with rfl | rfl | rfl | rfl | rfl <;> rfl
          · simp only [maxLen]; omega
          · omega
          · first | omega | (simp; omega)
          · intro v6 w6 hO6 hgr hat
            have HB6 := hide (Below.grown HB2.out hgr HB2.out.size (fun g hg => (HO2.out.blk hg).1))
            have HM6 := hide (HM3.out.kept hgr (fun e => hvM M e.symm rfl))
            have hv6 : ∀ g, v6.ownBlock = some g → g ≠ M := fun g hg => by
              rcases hat g hg with h | h
              · exact hvM g h
              · first | omega | (simp at h; omega)
            rw [← HT.out] at hO6
            have HO6 := hide hO6
            clear hO6 hgr hat HO2 HM3 HB2
            go_wp2
            go_roundw
            case rel => exact ⟨k + 1, by omega, by go_num, HO6, hv6, HM6, HB6⟩
            case measure => simp [nI]; omega
        · obtain rfl : k = b.length := by omega
          have hO := HO.out
          rw [List.take_length, ← HQ2.out] at hO
          obtain ⟨A9, c9, rfl, hS9⟩ := hO.sl
          have HS9 := hide hS9
          clear hO hS9 HO hvM
          go_wp2
          exact bodyPost_ret (v := .tuple #[.slice A9 L.length c9, .int .i64 0]) (by simp [results, Tryz.results7, go_sem]) rfl ⟨A9, c9, rfl, HS9.out, HB.out⟩
theorem standing20 (A : Option Addr) (c : Nat) (b : List Bu) (B : Option Addr) (d : Nat) (l : List Tr) (at_ known : Int) (w : World) (hS : Sl buC 5 w A c b) (hT : Sl trC 7 w B d l) (hI : buS b) (hJ : trS l) :
    Calls Tryz.prog 7 #[.slice A b.length c, .slice B l.length d, .int .i64 at_, .int .i64 known] w (SlE buC 5 (standL b l at_ known) (standE b l at_ known) w) := by
  by_cases hz : chk 400 b l = 0
  · rcases Bool.eq_false_or_eq_true (argA at_ known) with ha | ha
    · obtain ⟨e1, e2⟩ := stand_ok hz ha
      rw [e1, e2]; exact standing20_good A c b B d l at_ known w hS hT hI hJ hz ha
    · obtain ⟨e1, e2⟩ := stand_arg hz ha
      rw [e1, e2]; exact standing20_arg A c b B d l at_ known w hS hT hI hJ hz ha
  · obtain ⟨e1, e2⟩ := stand_bad (at_ := at_) (known := known) hz
    rw [e1, e2]; exact standing20_bad A c b B d l at_ known w hS hT hI hJ hz
end Go.Proofs.YtnngemgfochodaaGreat
