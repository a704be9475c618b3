/-
  shed: the jobs' places in the order of their dues.
  shed: the sort.
  shed: due.
-/
import Derived.Test.YtbkokljelopcnaaHM4
import Derived.Shelf.SlSortCmp.Insertion
namespace Go.Proofs.Ytbkokljelopcnaa
open Go.RowKit Go.Mine Go.Mine.Q Go.Sort Go.Shelf Go.Proofs
def insRen : Go.Shelf.Ren := ⟨fun | 20 => 104 | n => n, fun | 22 => 49 | 24 => 3 | 25 => 107 | n => n, fun | n => n⟩
theorem insL : SlLaysF.n20 Try.prog insRen := {
  mixed := by kernel_rfl
  f20 := ⟨Try.f104.name, by decide, Try.func104.trans (congrArg some (by kernel_rfl))⟩
  t0 := Try.underlying0
  a0 := Try.isAgg0
  z0 := Try.sizeOf0
  v0 := Try.zeroValue0
  t3 := Try.underlying3
  a3 := Try.isAgg3
  z3 := Try.sizeOf3
  v3 := Try.zeroValue3
  t4 := Try.underlying4
  a4 := Try.isAgg4
  z4 := Try.sizeOf4
  v4 := Try.zeroValue4
  t22 := Try.underlying49
  a22 := Try.isAgg49
  z22 := Try.sizeOf49
  v22 := Try.zeroValue49
  a24 := Try.isAgg3
  z24 := Try.sizeOf3
  t25 := Try.underlying107
  a25 := Try.isAgg107
  z25 := Try.sizeOf107
  v25 := Try.zeroValue107 }
def dueAt (l : List Jb) (k : Nat) : Int := ((l[k % l.length]?).map (·.due)).getD 0
def cfD (l : List Jb) (x y : Nat) : Int := cmpI (dueAt l x) (dueAt l y)
def encD (n : Nat) (k : Nat) : Value := .int .i64 ((k % n : Nat) : Int)
theorem ltOf_cfD (l : List Jb) (x y : Nat) : ltOf (cfD l) x y = decide (dueAt l x < dueAt l y) := by
  unfold ltOf cfD
  rw [decide_eq_decide]
  exact (cmpI_neg _ _).1
theorem swoD (l : List Jb) : SWO (ltOf (cfD l)) := by
  constructor
  · intro x; rw [ltOf_cfD]; simp
  · intro x y z h1 h2; rw [ltOf_cfD, decide_eq_true_eq] at *; omega
  · intro x y z h1 h2; rw [ltOf_cfD, decide_eq_false_iff_not] at *; omega
theorem sw_grown {α : Type} [Inhabited α] (enc : α → Value) (w0 : World) (blk off n : Nat) (dk : Array α) (os : Array Obj) : w0.grownBy (sortWorld enc w0 blk off n dk os) (some blk) := by
  refine ⟨rfl, rfl, rfl, ?_, fun i hi hne => ?_⟩
  · unfold sortWorld; rw [size_grow, size_putRow]; show w0.heap.size ≤ w0.heap.size + _; omega
  · have hib : blk ≠ i := fun e => hne (by rw [e])
    have hsz : (putRow enc (Sort.ahead w0 n) blk off dk).heap.size = w0.heap.size := by rw [size_putRow]; rfl
    unfold sortWorld grow
    show ((putRow enc (Sort.ahead w0 n) blk off dk).heap ++ os)[i]? = _
    rw [Array.getElem?_append_left (by omega)]
    unfold putRow mapBlock
    rw [Array.getElem?_modify, if_neg hib]
    rfl
set_option maxRecDepth 100000 in
set_option maxHeartbeats 4000000 in
theorem closure95 (A : Option Addr) (c : Nat) (l : List Jb) (q x y : Nat) (w : World) (hS : Sl jbC 5 w A c l) (hx : x < l.length) (hy : y < l.length) (hq : Blk w q 78 #[.slice A l.length c]) :
    Calls Try.prog 95 #[.int .i64 x, .int .i64 y, .pointer (some ⟨q, 0, none⟩)] w fun e w' => e = .returned (.int .i64 (cfD l x y)) ∧ w' = w.drew := by
  obtain ⟨jx, b, off, hjx, _, rfl, hbw, d0, d1, d2, d3, d4⟩ := Sl.jb_at hS hx
  obtain ⟨jy, b', off', hjy, _, e', hbw', f0, f1, f2, f3, f4⟩ := Sl.jb_at hS hy
  cases e'
  have hlc := hS.le
  have hc := hS.max
  have q0 := hq.cell (v := .slice (some ⟨b, off, none⟩) l.length c) 0 rfl
  have ql := hq.lt
  have xz : (x : Int) < (l.length : Int) := by omega
  have yz : (y : Int) < (l.length : Int) := by omega
  have HE := hide (show cmpI jx.due jy.due = cfD l x y by unfold cfD dueAt; rw [Nat.mod_eq_of_lt hx, Nat.mod_eq_of_lt hy, hjx, hjy]; rfl)
  have K1 := hide ((compare75 jx.due jy.due w.drew).mono fun e w' (h : e = .returned (.int .i64 (cmpI jx.due jy.due)) ∧ w.drew = w') => And.intro h.1 h.2.symm)
  generalize cmpI jx.due jy.due = r1 at *
  clear hS hq d0 d1 d3 d4 f0 f1 f3 f4 hjx hjy
  go_enter Try.func95, Try.ntmps95
  go_wp2_with fail
  refine wp_still_all (by kernel_rfl) (by kernel_rfl) ?_
  repeat (first | ((with_reducible refine wpStill_step (fun K hK => ?_)); go_simp; (try go_bits); (with_reducible refine hK _ ?_); clear hK K) | ((with_reducible refine wpStill_step (fun K hK => ?_)); go_simp; with_reducible refine ⟨_, K1.out, ?_⟩; (with_reducible refine hK _ ?_); clear hK K))
  (with_reducible refine wpStill_nil ?_)
  go_wp2
  go_ret
  exact ⟨ret_int HE.out, rfl⟩
end Go.Proofs.Ytbkokljelopcnaa
namespace Go.Proofs.Ytbkokljelopcnaa
open Go.RowKit Go.Mine Go.Mine.Q Go.Shelf Go.Proofs
theorem cfD_mod (l : List Jb) (x y : Nat) : cfD l (x % l.length) (y % l.length) = cfD l x y := by
  unfold cfD dueAt
  rw [Nat.mod_mod, Nat.mod_mod]
theorem reads95 {A : Option Addr} {c : Nat} {l : List Jb} {q blk : Nat} {w0 w : World} (hS : Sl jbC 5 w0 A c l) (hB : Below w0.heap.size w0 w) (hq : Blk w q 78 #[.slice A l.length c]) (hqb : q ≠ blk) (hblk : w0.heap.size ≤ blk) (hl : l ≠ []) :
    CmpReads Try.prog 95 #[.pointer (some ⟨q, 0, none⟩)] (encD l.length) (cfD l) blk 0 l.length w := by
  intro m os dk _ x y
  have hg := sw_grown (encD l.length) w blk 0 m dk os
  have hpos : 0 < l.length := by cases l with | nil => exact absurd rfl hl | cons a b => simp
  have hB' : Below w0.heap.size w0 (sortWorld (encD l.length) w blk 0 m dk os) := Below.grown hB hg hB.size (fun k hk => by cases hk; exact hblk)
  have h := closure95 A c l q (x % l.length) (y % l.length) _ (hS.bel hB') (Nat.mod_lt _ hpos) (Nat.mod_lt _ hpos) (Blk.grown hq hg (fun e => hqb (Option.some.inj e)))
  rw [cfD_mod] at h
  exact h.mono fun e w' h => ⟨h.1, 1, h.2⟩
theorem ins104 {A : Option Addr} {c : Nat} {l : List Jb} {q blk : Nat} {w0 w : World} (hS : Sl jbC 5 w0 A c l) (hB : Below w0.heap.size w0 w) (hq : Blk w q 78 #[.slice A l.length c]) (hqb : q ≠ blk) (hblk : w0.heap.size ≤ blk) (hl : l ≠ []) (hl10 : l.length ≤ 10) (cap : Nat) (d : Array Nat) (hd : d.size = l.length) (hH : Sort.Holds (encD l.length) w blk 0 d) :
    Calls Try.prog 104 #[.slice (some ⟨blk, 0, none⟩) l.length cap, .int .i64 0, .int .i64 l.length, .func (.func 95) #[] #[.pointer (some ⟨q, 0, none⟩)]] w fun e w' => e = .returned (.tuple #[]) ∧ ∃ p : Array Nat, p.toList.Perm d.toList ∧ p.toList.Pairwise (fun x y => dueAt l x ≤ dueAt l y) ∧ Sort.Holds (encD l.length) w' blk 0 p ∧ w.grownBy w' (some blk) := by
  have hC := reads95 hS hB hq hqb hblk hl
  rw [← hd] at hC
  have h := Any.insertionSortCmpFunc_one (P := Try.prog) (ρ := insRen) insL (encD l.length) (fun x => by rfl) (cfD l) 95 #[.pointer (some ⟨q, 0, none⟩)] blk 0 cap 0 d.size d w (enters_of Try.func95 (by kernel_rfl) rfl) (by rw [hd] at hC ⊢; exact hC) hH (Nat.zero_le _) (Nat.le_refl _) (by omega)
  rw [hd] at h
  refine Calls.mono h ?_
  rintro e w' ⟨he, n, hw⟩
  obtain ⟨hp, hs⟩ := Sort.insertionSort_holds (lt := ltOf (cfD l)) (swoD l) d 0 d.size (Nat.zero_le _) (Nat.le_refl _)
  rw [hd] at hp hs
  generalize hD : Sort.insertionSort (ltOf (cfD l)) d 0 l.length = D at *
  have hsz : D.size = d.size := hp.1
  have e1 : D.extract 0 l.length = D := by rw [← hd, ← hsz]; simp
  have e2 : d.extract 0 l.length = d := by rw [← hd]; simp
  have h3 := hp.2.2
  rw [e1, e2] at h3
  refine ⟨he, D, h3, ?_, ?_, ?_⟩
  · rw [List.pairwise_iff_getElem]
    intro i j hi hj hij
    have hj' : j < l.length := by rw [← hd, ← hsz]; simpa using hj
    have h4 := hs i j (Nat.zero_le _) hij hj'
    rw [ltOf_cfD, decide_eq_false_iff_not] at h4
    have gi : D[i]! = D.toList[i] := by rw [getElem!_pos D i (by simpa using hi)]; simp
    have gj : D[j]! = D.toList[j] := by rw [getElem!_pos D j (by simpa using hj)]; simp
    rw [gi, gj] at h4
    omega
  · rw [hw]
    exact Sort.holds_putRow (encD l.length) w blk 0 d D hH hsz
  · rw [hw, ← sortWorld_none]
    exact sw_grown _ _ _ _ _ _ _
theorem ins104_nil (A : Option Addr) (n c : Nat) (F : Value) (w : World) : Calls Try.prog 104 #[.slice A n c, .int .i64 0, .int .i64 0, F] w fun e w' => e = .returned (.tuple #[]) ∧ w = w' := by
  go_enter Try.func104, Try.ntmps104
  go_wp2
  go_loopw [8] (fun v8 wr => v8 = .int .i64 1 ∧ wr = w) (fun _ _ => 0)
  case atStart => exact ⟨rfl, rfl⟩
  case round =>
    obtain ⟨rfl, rfl⟩ := hrel
    go_wp2
    go_end0
    exact ⟨rfl, rfl⟩
set_option maxHeartbeats 2000000 in
theorem stable102 (A : Option Addr) (n c : Nat) (hn : n < 20) (q : Nat) (Q : World → Prop) (w : World) (K : Calls Try.prog 104 #[.slice A n c, .int .i64 0, .int .i64 n, .func (.func 95) #[] #[.pointer (some ⟨q, 0, none⟩)]] w fun e w' => e = .returned (.tuple #[]) ∧ Q w') :
    Calls Try.prog 102 #[.slice A n c, .int .i64 n, .func (.func 95) #[] #[.pointer (some ⟨q, 0, none⟩)]] w fun e w' => e = .returned (.tuple #[]) ∧ Q w' := by
  have HK := hide K
  have nz : (n : Int) < 20 := by omega
  clear K
  go_enter Try.func102, Try.ntmps102
  go_wp2
  go_loopw [7, 8] (fun v7 v8 wr => v7 = .int .i64 0 ∧ v8 = .int .i64 20 ∧ wr = w) (fun _ _ _ => 0)
  case atStart => exact ⟨rfl, rfl, rfl⟩
  case round =>
    obtain ⟨rfl, rfl, rfl⟩ := hrel
    go_wp2_with fail
    refine HK.out.mono ?_
    rintro e w1 ⟨rfl, hq⟩
    have HQ := hide hq
    clear hq HK
    go_wp2
    go_loopw [6] (fun v6 wr => v6 = .int .i64 20 ∧ wr = w1) (fun _ _ => 0)
    case atStart => exact ⟨rfl, rfl⟩
    case round =>
      obtain ⟨rfl, rfl⟩ := hrel
      have nz' : ¬ (20 : Int) < (n : Int) := by omega
      go_wp2
      go_end0
      exact ⟨rfl, HQ.out⟩
theorem sort94 (A : Option Addr) (n c : Nat) (hn : n < 20) (q : Nat) (Q : World → Prop) (w : World) (K : Calls Try.prog 104 #[.slice A n c, .int .i64 0, .int .i64 n, .func (.func 95) #[] #[.pointer (some ⟨q, 0, none⟩)]] w fun e w' => e = .returned (.tuple #[]) ∧ Q w') :
    Calls Try.prog 94 #[.slice A n c, .func (.func 95) #[] #[.pointer (some ⟨q, 0, none⟩)]] w fun e w' => e = .returned (.tuple #[]) ∧ Q w' := by
  have HK := hide (stable102 A n c hn q Q w K)
  clear K
  go_enter Try.func94, Try.ntmps94
  go_wp2_with fail
  refine HK.out.mono ?_
  rintro e w1 ⟨rfl, hq⟩
  go_wp2
  go_end0
  exact ⟨rfl, hq⟩
end Go.Proofs.Ytbkokljelopcnaa
namespace Go.Proofs.Ytbkokljelopcnaa
open Go.RowKit Go.Mine Go.Mine.Q
def natI (p : List Nat) : List Int := p.map fun k : Nat => (k : Int)
theorem natI_flat (p : List Nat) : (natI p).flatMap ic = p.map fun k : Nat => Value.int .i64 (k : Int) := by
  unfold natI
  induction p with
  | nil => rfl
  | cons x p ih => rw [List.map_cons, List.flatMap_cons, ih]; rfl
theorem Sl.none_of {w : World} {D : Option Addr} {c : Nat} (hc : c ≤ 9223372036854775807) : Sl ic 1 w D c [] := ⟨Nat.zero_le _, hc, by simp, fun h => absurd rfl h⟩
/-- the jobs' places, in the order of their dues -/
def DueE (l : List Jb) (w : World) (e : Ending) (w' : World) : Prop := ∃ D d p, e = .returned (.slice D l.length d) ∧ Sl ic 1 w' D d (natI p) ∧ p.Perm (List.range l.length) ∧ p.Pairwise (fun x y => dueAt l x ≤ dueAt l y) ∧ Below w.heap.size w w' ∧ ∀ x off, D = some ⟨x, off, none⟩ → w.heap.size ≤ x
/-- the sort of the places -/
theorem sorts94 {A : Option Addr} {c : Nat} {l : List Jb} {q : Nat} {w0 w : World} (hS : Sl jbC 5 w0 A c l) (hB : Below w0.heap.size w0 w) (hq : Blk w q 78 #[.slice A l.length c]) (hqb : w0.heap.size ≤ q) (hl : l.length ≤ 10) {v : Value} (hO : OwnL ic 1 3 w (q + 1) v (natI (List.range l.length))) :
    ∃ D d, v = .slice D l.length d ∧ (∀ x off, D = some ⟨x, off, none⟩ → w0.heap.size ≤ x) ∧ Calls Try.prog 94 #[.slice D l.length d, .func (.func 95) #[] #[.pointer (some ⟨q, 0, none⟩)]] w fun e w' => e = .returned (.tuple #[]) ∧ ∃ p : List Nat, Sl ic 1 w' D d (natI p) ∧ p.Perm (List.range l.length) ∧ p.Pairwise (fun x y => dueAt l x ≤ dueAt l y) ∧ Below w0.heap.size w0 w' := by
  obtain ⟨⟨hlen, h1⟩, hs⟩ := hO
  have hrl : (natI (List.range l.length)).length = l.length := by unfold natI; simp
  rcases h1 with ⟨rfl, hn⟩ | ⟨g, cap, cur, rfl, hg, hh, hn, hc, hz, ht⟩
  · rw [hrl] at hn
    have hl0 : l = [] := List.length_eq_zero_iff.1 hn
    subst hl0
    refine ⟨none, 0, rfl, (fun x off e => by cases e), sort94 none 0 0 (by decide) q _ w ((ins104_nil none 0 0 _ w).mono ?_)⟩
    rintro e w' ⟨he, rfl⟩
    exact ⟨he, [], Sl.nil (by decide), by simp, List.Pairwise.nil, hB⟩
  · rw [hrl] at ht hn
    refine ⟨some ⟨g, 0, none⟩, cap, by rw [hrl], (fun x off e => by cases e; omega), ?_⟩
    by_cases hl0 : l = []
    · subst hl0
      refine sort94 _ 0 cap (by decide) q _ w ((ins104_nil _ 0 cap _ w).mono ?_)
      rintro e w' ⟨he, rfl⟩
      exact ⟨he, [], Sl.none_of (by simpa [maxLen] using hc), by simp, List.Pairwise.nil, hB⟩
    · refine sort94 _ _ _ (by omega) q _ w ?_
      have hgw : g < w.heap.size := (Array.getElem?_eq_some_iff.1 hh).1
      have hcell : ∀ j u, ((natI (List.range l.length)).flatMap ic)[j]? = some u → w.cell? ⟨g, j, none⟩ = some u := fun j u hu => by
        have hj : j < l.length * 1 := by
          have := (List.getElem?_eq_some_iff.1 hu).1
          rw [natI_flat] at this; simpa using this
        rw [← ht, List.getElem?_take_of_lt hj] at hu
        simp only [World.cell?, hh]
        simpa using hu
      refine (ins104 hS hB hq (by omega) (by omega) hl0 hl cap (List.range l.length).toArray (by simp) ?_).mono ?_
      · intro j hj
        have hj' : j < l.length := by simpa using hj
        rw [Nat.zero_add]
        refine ⟨hcell j _ ?_, by simp [World.frozen?, hh]⟩
        rw [natI_flat, getElem!_pos _ j hj]
        unfold encD
        simp [hj', Nat.mod_eq_of_lt hj']
      · rintro e w' ⟨he, p, hp, hs2, hH, hgr⟩
        have hp' : p.toList.Perm (List.range l.length) := by simpa using hp
        have hps : p.size = l.length := by have := hp'.length_eq; simpa using this
        refine ⟨he, p.toList, ⟨?_, by simpa [maxLen] using hc, fun x hx => rfl, fun _ => ⟨g, 0, rfl, Nat.lt_of_lt_of_le hgw hgr.size, fun i u hu => ?_⟩⟩, hp', hs2, Below.grown hB hgr hB.size (fun k hk => by cases hk; omega)⟩
        · unfold natI; simp; omega
        · rw [natI_flat, List.getElem?_map] at hu
          obtain ⟨x, hx, rfl⟩ := Option.map_eq_some_iff.1 hu
          have hi : i < p.size := by have := (List.getElem?_eq_some_iff.1 hx).1; simpa using this
          have h5 := (hH i hi).1
          rw [h5]
          unfold encD
          have hx2 : p[i]! = x := by
            rw [getElem!_pos p i hi]
            have := (List.getElem?_eq_some_iff.1 hx).2
            simpa using this
          have hxl : x < l.length := by
            have := hp'.subset (List.mem_of_getElem? hx)
            simpa using this
          rw [hx2, Nat.mod_eq_of_lt hxl]
theorem natI_snoc (k : Nat) : natI (List.range (k + 1)) = natI (List.range k) ++ [(k : Int)] := by
  unfold natI
  rw [List.range_succ, List.map_append]; rfl
set_option maxRecDepth 100000 in
set_option maxHeartbeats 8000000 in
theorem due78 (A : Option Addr) (c : Nat) (l : List Jb) (w : World) (hS : Sl jbC 5 w A c l) (hl : l.length ≤ 10) :
    Calls Try.prog 78 #[.slice A l.length c] w (DueE l w) := by
  have hlc := hS.le
  have hc := hS.max
  have HX0 := hide (Blk.new w #[.slice A l.length c] 78)
  have HB0 := hide (kalloc (Below.refl w.heap.size w) (.cells #[.slice A l.length c] 78))
  have KS := hide (fun (W : World) (hB : Below w.heap.size w W) (hq : Blk W w.heap.size 78 #[.slice A l.length c]) (v : Value) (hO : OwnL ic 1 3 W (w.heap.size + 1) v (natI (List.range l.length))) => sorts94 hS hB hq (Nat.le_refl _) hl hO)
  obtain ⟨i0, hi, hz0, hz1, hz2⟩ := info_parts Try_info3
  have HI := hide hi
  clear hS hi
  unfold DueE
  go_enter Try.func78, Try.ntmps78
  go_wp2
  go_loopw [2, 6] (fun v2 v6 wr => ∃ (k : Nat), k ≤ l.length ∧ v6 = .int .i64 k ∧ Hid (OwnL ic 1 3 wr (w.heap.size + 1) v2 (natI (List.range k))) ∧ Hid (Blk wr w.heap.size 78 #[.slice A l.length c]) ∧ Hid (Below w.heap.size w wr)) (fun _ i _ => l.length - (nI i).toNat)
  case atStart => exact ⟨0, Nat.zero_le _, rfl, OwnL.nil _ _ _ _ _, HX0, HB0⟩
  case round =>
    clear HX0 HB0
    obtain ⟨k, hk, rfl, HO, HX, HB⟩ := hrel
    by_cases hlt : k < l.length
    · have kz : (k : Int) < (l.length : Int) := by omega
      have HSN := hide (natI_snoc k)
      have hkl : (natI (List.range k)).length = k := by unfold natI; simp
      generalize natI (List.range k) = k0 at *
      go_wp2_with (at_builtin; refine wpList_append rfl (.tmp 9) (.tmp 11) 49 rfl rfl rfl (run_extend (f := ic) (base := w.heap.size + 1) (l1 := k0) (l2 := [(k : Int)]) Try.underlying49 HI.out hz0 hz1 hz2 rfl (by decide) (HO.out.alloc _) (Sl.one (Blk.new _ _ _) rfl rfl (by decide) (by decide)) (ic_onel _) ?_ ?_ ?_) ?_)
      · simp only [List.length_singleton]; unfold maxLen; omega
      · simp only [List.length_singleton]; omega
      · have := HX.out.lt; simp; omega
      · intro v9 w9 hO9 hg9 hat9
        rw [← HSN.out] at hO9
        have HO9 := hide hO9
        have HB9 : Hid (Below w.heap.size w w9) := hide (Below.grown (kalloc HB.out _) hg9 (by have := HB.out.size; simp; omega) (fun g hg => Nat.le_of_succ_le (HO.out.blk hg).1))
        have HX9 : Hid (Blk w9 w.heap.size 78 #[.slice A l.length c]) := hide (blk_grown (HX.out.alloc _) hg9 (fun hb => by have := (HO.out.blk hb).1; omega))
        clear hO9 hg9 hat9 HO HX HB
        go_wp2
        go_roundw
        case rel => exact ⟨k + 1, by omega, by go_num, HO9, HX9, HB9⟩
        case measure => simp [nI]; omega
    · obtain rfl : k = l.length := by omega
      obtain ⟨D, d, rfl, hD, hK⟩ := KS.out wr HB.out HX.out _ HO.out
      have HK := hide hK
      have HD := hide hD
      clear hK hD KS HO HX
      go_wp2_with fail
      refine HK.out.mono ?_
      rintro e w1 ⟨rfl, p, h1, h2, h3, h4⟩
      have HP := hide (And.intro h1 (And.intro h2 (And.intro h3 h4)))
      clear h1 h2 h3 h4 HK
      go_wp2
      go_ret
      exact ⟨D, d, p, rfl, HP.out.1, HP.out.2.1, HP.out.2.2.1, HP.out.2.2.2, HD.out⟩
end Go.Proofs.Ytbkokljelopcnaa
