/-
  shed: the choices in the order of the dues, plainly; the best of those yielded; Shed$1, inTime.
  shed.inTime: the iterator yields the choices that can be done in time.
  shed: the closure that orders two choices; the iterator made.
  shed.first: the best of the choices that are yielded.
  shed.Shed.
-/
import Derived.Test.YtbkokljelopcnaaHM5
import Derived.Test.YtbkokljelopcnaaScope
import Derived.Test.YtbkokljelopcnaaJM3
import Derived.Test.YtbkokljelopcnaaJM4
import Derived.Deep.MidRow
namespace Go.Proofs.Ytbkokljelopcnaa
open Go.RowKit Go.Mine Go.Mine.Q
/-- the jobs of the m-th choice, in the order of the places p -/
def ordJ (l : List Jb) (p : List Nat) (m : Nat) : List Jb := p.filterMap fun k => if bt m k = true then l[k]? else none
theorem ordJ_cons (l : List Jb) (k : Nat) (p : List Nat) (m : Nat) : ordJ l (k :: p) m = if bt m k = true then (match l[k]? with | none => ordJ l p m | some x => x :: ordJ l p m) else ordJ l p m := by
  unfold ordJ
  rw [List.filterMap_cons]
  by_cases h : bt m k = true
  · rw [if_pos h, if_pos h]; cases l[k]? <;> rfl
  · rw [if_neg h, if_neg h]
theorem ordJ_range (l : List Jb) (m : Nat) : ∀ k, k ≤ l.length → ordJ l (List.range k) m = selM (l.take k) m
  | 0, _ => by rw [List.take_zero]; rfl
  | k + 1, h => by
    have hk : k < l.length := by omega
    have hx : l[k]? = some l[k] := List.getElem?_eq_getElem hk
    have ih := ordJ_range l m k (by omega)
    unfold ordJ at ih ⊢
    rw [List.range_succ, List.filterMap_append, ih, take_of_get hx, selM_snoc, List.length_take, Nat.min_eq_left (Nat.le_of_lt hk)]
    by_cases hb : m / 2 ^ k % 2 = 1
    · have : bt m k = true := decide_eq_true hb
      rw [if_pos hb]
      simp [this, hx]
    · have : bt m k = false := decide_eq_false hb
      rw [if_neg hb]
      simp [this]
theorem ordJ_all (l : List Jb) (m : Nat) : ordJ l (List.range l.length) m = selM l m := by
  rw [ordJ_range l m l.length (Nat.le_refl _), List.take_of_length_le (Nat.le_refl _)]
theorem dueAt_is {l : List Jb} {k : Nat} {x : Jb} (h : l[k]? = some x) : dueAt l k = x.due := by
  have hk := (List.getElem?_eq_some_iff.1 h).1
  unfold dueAt
  rw [Nat.mod_eq_of_lt hk, h]; rfl
theorem ordJ_sorted (l : List Jb) (m : Nat) : ∀ {p : List Nat}, p.Pairwise (fun x y => dueAt l x ≤ dueAt l y) → (ordJ l p m).Pairwise fun x y => x.due ≤ y.due := by
  intro p hp
  unfold ordJ
  rw [List.pairwise_filterMap]
  refine hp.imp ?_
  intro a b hab x hx y hy
  by_cases h1 : bt m a = true
  · rw [if_pos h1] at hx
    by_cases h2 : bt m b = true
    · rw [if_pos h2] at hy
      rw [dueAt_is hx, dueAt_is hy] at hab
      exact hab
    · rw [if_neg h2] at hy; cases hy
  · rw [if_neg h1] at hx; cases hx
/-- stepping through a choice in the order of the dues tells whether it can be done in time -/
theorem feas_seq {l : List Jb} (h : Wt l) {p : List Nat} (hp : p.Perm (List.range l.length)) (hs : p.Pairwise (fun x y => dueAt l x ≤ dueAt l y)) (m : Nat) : seqGo 0 (ordJ l p m) = feasM l m := by
  unfold feasM
  refine seq_inTime ?_ (ordJ_sorted l m hs) (fun y hy => h.need y ((selM_sub l m).subset hy))
  rw [← ordJ_all]
  exact hp.filterMap _
theorem bt_high {m n i : Nat} (h : m < 2 ^ n) (hi : n ≤ i) : bt m i = false := by
  unfold bt
  have : m < 2 ^ i := Nat.lt_of_lt_of_le h (Nat.pow_le_pow_right (by decide) hi)
  rw [Nat.div_eq_of_lt this]; rfl
/-! ### the best of those yielded -/
def foldB (l : List Jb) : Option Nat → List Nat → Option Nat
  | o, [] => o
  | none, m :: r => foldB l (some m) r
  | some b, m :: r => foldB l (some (if lessC (chM l m) (chM l b) = true then m else b)) r
theorem foldB_snoc (l : List Jb) (m : Nat) : ∀ (r : List Nat) (o : Option Nat), foldB l o (r ++ [m]) = foldB l (foldB l o r) [m]
  | [], o => by cases o <;> rfl
  | x :: r, none => foldB_snoc l m r (some x)
  | x :: r, some b => foldB_snoc l m r _
/-- the choices that can be done in time, as they are yielded -/
def feasL (l : List Jb) (k : Nat) : List Nat := (List.range k).filter (feasM l)
theorem feasL_succ (l : List Jb) (k : Nat) : feasL l (k + 1) = feasL l k ++ (if feasM l k = true then [k] else []) := by
  unfold feasL
  rw [List.range_succ, List.filter_append]
  by_cases h : feasM l k = true
  · rw [if_pos h]; simp [h]
  · rw [if_neg h]; simp [h]
theorem fold_best (l : List Jb) : ∀ k, foldB l none (feasL l (k + 1)) = some (bestM l (k + 1))
  | 0 => by
    rw [bestM_one, feasL_succ, if_pos (feas_zero l)]; rfl
  | k + 1 => by
    have ih := fold_best l k
    rw [feasL_succ]
    show _ = some (stepM l (bestM l (k + 1)) (k + 1))
    unfold stepM
    by_cases h : feasM l (k + 1) = true
    · rw [if_pos h, foldB_snoc, ih]
      show some (if _ then _ else _) = _
      by_cases h2 : lessC (chM l (k + 1)) (chM l (bestM l (k + 1))) = true
      · rw [if_pos h2, if_pos ⟨h, h2⟩]
      · rw [if_neg h2, if_neg (fun e => h2 e.2)]
    · rw [if_neg h, List.append_nil, ih, if_neg (fun e => h e.1)]
theorem fold_shed (l : List Jb) : foldB l none (feasL l (2 ^ l.length)) = some (shedM l) := by
  have hpos : 0 < 2 ^ l.length := Nat.pow_pos (by decide)
  obtain ⟨k, hk⟩ : ∃ k, 2 ^ l.length = k + 1 := ⟨2 ^ l.length - 1, by omega⟩
  unfold shedM
  rw [hk]; exact fold_best l k
end Go.Proofs.Ytbkokljelopcnaa
namespace Go.Proofs.Ytbkokljelopcnaa
open Go.RowKit Go.Mine Go.Mine.Q
attribute [local go_sem] Oper.semAt_some
def gA (g : Nat → Bool) : Array Value := #[.bool (g 0), .bool (g 1), .bool (g 2), .bool (g 3), .bool (g 4), .bool (g 5), .bool (g 6), .bool (g 7), .bool (g 8), .bool (g 9)]
theorem gA_set (g : Nat → Bool) : ∀ {i : Nat}, i < 10 → (gA g).setIfInBounds i (.bool true) = gA (fun k => if k = i then true else g k)
  | 0, _ => rfl | 1, _ => rfl | 2, _ => rfl | 3, _ => rfl | 4, _ => rfl | 5, _ => rfl | 6, _ => rfl | 7, _ => rfl | 8, _ => rfl | 9, _ => rfl
  | n + 10, h => by omega
theorem gA_is {g : Nat → Bool} {m : Nat} (h : ∀ k, k < 10 → g k = bt m k) : gA g = chA m := by
  unfold gA chA
  rw [h 0 (by decide), h 1 (by decide), h 2 (by decide), h 3 (by decide), h 4 (by decide), h 5 (by decide), h 6 (by decide), h 7 (by decide), h 8 (by decide), h 9 (by decide)]
/-- the choices, as they are yielded -/
def yieldsH (l : List Jb) : List (Array Value) := (feasL l (2 ^ l.length)).map fun m => #[chV m]
theorem yields_at {l : List Jb} {m N : Nat} (hN : 2 ^ l.length = N) (hm : m < N) (hf : feasM l m = true) : (yieldsH l)[(feasL l m).length]? = some #[chV m] := by
  unfold yieldsH
  rw [hN, List.getElem?_map]
  obtain ⟨d, rfl⟩ : ∃ d, N = m + 1 + d := ⟨N - (m + 1), by omega⟩
  have h1 : feasL l (m + 1 + d) = feasL l m ++ ([m] ++ ((List.range' (m + 1) d).filter (feasM l))) := by
    unfold feasL
    rw [List.range_eq_range', List.range_eq_range', show m + 1 + d = m + (1 + d) by omega, ← List.range'_append_1, ← List.range'_append_1, List.filter_append, List.filter_append]
    simp [hf]
  rw [h1, List.getElem?_append_right (Nat.le_refl _), Nat.sub_self]
  rfl
set_option maxRecDepth 100000 in
set_option maxHeartbeats 8000000 in
theorem inTime77_iter (w0 w1 : World) (A : Option Addr) (c : Nat) (l : List Jb) (hS : Sl jbC 5 w0 A c l) (hz : errH l = 0) (hb : Below w0.heap.size w0 w1) (B : Nat) (hB : w0.heap.size ≤ B) (c0 : w1.cell? ⟨B, 0, none⟩ = some (.slice A l.length c)) (hB2 : B < w1.heap.size) :
    Iter Try.prog 77 #[.pointer (some ⟨B, 0, none⟩)] (yieldsH l) (fun x => x < w0.heap.size ∨ x = B) w1 := by
  intro n lp J Jx W hw hR hJ hJx hY h0
  have hW := Wt.of hz
  have hl10 := hW.len
  have hlc := hS.le
  have hc := hS.max
  have hwz := hb.size
  have hSW : Sl jbC 5 W A c l := Sl.heap hS (fun x hx => ((hR x (.inl hx)).2).trans (hb.block x hx)) (by omega)
  have cW : W.cell? ⟨B, 0, none⟩ = some (.slice A l.length c) := (World.cell?_of_block (a := ⟨B, 0, none⟩) (hR B (.inr rfl)).2).trans c0
  have hBW : B < W.heap.size := by omega
  have K78 := hide (due78 A c l W hSW hl10)
  have HRJ := hide (fun x (h : x < w0.heap.size) => ((hR x (.inl h)).2).trans (hb.block x h))
  have HS0 := hide hS
  have HRW := hide (fun x (h : x < w0.heap.size ∨ x = B) => show x < W.heap.size by have := (hR x h).1; omega)
  have HS := hide hSW
  have HW := hide hW
  have hpow : 2 ^ l.length ≤ 1024 := by
    have : 2 ^ l.length ≤ 2 ^ 10 := Nat.pow_le_pow_right (by decide) hl10
    exact this
  have hsh : ((2 : Int) ^ l.length) = ((2 ^ l.length : Nat) : Int) := by simp
  have HY := hide @hY
  clear hS hz hb c0 hSW hW hR hY
  generalize hN : 2 ^ l.length = N at *
  have HN := hide hN
  have hwN : IntKind.i64.wrap (N : Int) = (N : Int) := by rw [IntKind.wrap_i64]; omega
  clear hN
  refine callsIn_of_wp Try.func77 rfl trivial ?_ rfl
  simp only [Try.ntmps77]
  simp only [List.size_toArray, List.length_cons, List.length_nil, Nat.reduceAdd, Nat.reduceSub, Array.replicate_succ, Array.replicate_zero, List.push_toArray, List.append_toArray, List.nil_append, List.cons_append]
  refine wpIn_scope ?_
  gi_wp2_with fail
  refine (callsIn_wide.2 K78.out).mono ?_
  rintro e w6 ⟨D, d, p, rfl, hSp, hpp, hps, hb6, hD⟩
  have HC0 := hide (show Ctx J W w6 [] 0 (fun b => False ∨ (W.heap.size ≤ b ∧ b < w6.heap.size)) (fun _ => ⟨⟨0, 0, 0, 0, false⟩, 0⟩) w6 from
    ⟨hJ _ _ _ _ _ h0 (IStep.of_below hb6), fun x hx => hx.elim (fun h => h.elim) id, fun x h1 h2 => .inr ⟨h1, h2⟩, ⟨hb6.size, Nat.le_refl _⟩, fun _ _ _ _ => rfl, fun x hx => (by cases hx), fun x hx => (by cases hx)⟩)
  have HK0 := hide (fun x (h : x < w0.heap.size ∨ x = B) => hb6.block x (HRW.out x h))
  have HSp := hide hSp
  have HP := hide (And.intro hpp hps)
  have HD := hide hD
  have c6 := hb6.cell (p := ⟨B, 0, none⟩) hBW |>.trans cW
  have l6 : B < w6.heap.size := Nat.lt_of_lt_of_le hBW hb6.size
  have hLp := hSp.le
  have hcp := hSp.max
  have hpl : p.length = l.length := by have := hpp.length_eq; simpa using this
  rw [show (natI p).length = p.length by unfold natI; simp, hpl] at hLp
  clear hSp hpp hps hb6 hD K78 h0
  gi_wp2_with fail
  refine wpIn_label ?_
  gi_wp2_with fail
  clear c6 l6
  gi_loopw [14] (fun v14 wr => ∃ (m : Nat) (O : Nat → Prop), m ≤ N ∧ v14 = .int .i64 m ∧ Hid (Ctx J W w6 [] (feasL l m).length O (fun _ => ⟨⟨0, 0, 0, 0, false⟩, 0⟩) wr) ∧ Hid (∀ x, (x < w0.heap.size ∨ x = B) → wr.heap[x]? = W.heap[x]?)) (fun i _ => N - (nI i).toNat)
  case atStart => exact ⟨0, _, Nat.zero_le _, rfl, HC0, HK0⟩
  case round =>
    clear HC0 HK0
    obtain ⟨m, O, hm, rfl, HC, HK⟩ := hrel
    obtain ⟨wo, hwo⟩ : ∃ x, x = wr := ⟨_, rfl⟩
    subst hwo
    have hwoz := HC.out.sz
    by_cases hlt : m < N
    · have mz : (m : Int) < (N : Int) := by omega
      have HX0 := hide (Blk.new wo (gA fun _ => false) 80)
      have HB0 := hide (kalloc (Below.refl wo.heap.size wo) (.cells (gA fun _ => false) 80))
      simp only [gA] at HX0 HB0
      gi_wp2_with fail
      gi_loopw [6, 19] (fun v6 v19 wr => ∃ (q : Nat) (s : Int) (g : Nat → Bool), q ≤ l.length ∧ v19 = .int .i64 q ∧ v6 = .int .i64 s ∧ Hid (Blk wr wo.heap.size 80 (gA g)) ∧ Hid (Below wo.heap.size wo wr) ∧ Hid (seqGo 0 (ordJ l p m) = seqGo s (ordJ l (p.drop q) m)) ∧ Hid (0 ≤ s ∧ s ≤ 1099511627776) ∧ Hid (∀ k, g k = (decide (k ∈ p.take q) && bt m k))) (fun _ i _ => l.length - (nI i).toNat)
      case atStart => exact ⟨0, 0, fun _ => false, Nat.zero_le _, rfl, rfl, HX0, HB0, rfl, ⟨Int.le_refl _, by decide⟩, fun k => by simp⟩
      case round =>
        clear HX0 HB0
        obtain ⟨q, s, g, hq, rfl, rfl, HX, HBw, HQ, HSb, HG⟩ := hrel
        have hkb : ∀ x, (x < w0.heap.size ∨ x = B) → wr.heap[x]? = W.heap[x]? := fun x hx => (HBw.out.block x (by have := HRW.out x hx; omega)).trans (HK.out x hx)
        have hbz := HBw.out.size
        have cB : wr.cell? ⟨B, 0, none⟩ = some (.slice A l.length c) := (World.cell?_of_block (a := ⟨B, 0, none⟩) (hkb B (.inr rfl))).trans cW
        have lB : B < wr.heap.size := by omega
        have hSJ : Sl jbC 5 wr A c l := Sl.heap HS0.out (fun x hx => (hkb x (.inl hx)).trans (HRJ.out x hx)) (by omega)
        have hm62 : m < 2 ^ 62 := by omega
        have HKB := hide hkb
        by_cases hlt2 : q < l.length
        · have qz : (q : Int) < (l.length : Int) := by omega
          have hSo : Sl ic 1 wr D d (natI p) := (HC.out.sl HSp.out (fun x off e => ⟨HD.out x off e, by simp⟩)).bel HBw.out
          have hpq : q < p.length := by omega
          obtain ⟨k, hk⟩ : ∃ k, p[q]? = some k := ⟨_, List.getElem?_eq_getElem hpq⟩
          have hkl : k < l.length := by have := HP.out.1.subset (List.mem_of_getElem? hk); simpa using this
          obtain ⟨y, bo, offo, hy, _, eD, hbo, co⟩ := Sl.ic_at hSo (k := q) (by unfold natI; simpa using hpq)
          obtain rfl : y = (k : Int) := by
            unfold natI at hy
            rw [List.getElem?_map, hk] at hy
            exact (Option.some.inj hy).symm
          subst eD
          obtain ⟨x, b, off, hx, _, eA, hbw, d0, d1, d2, d3, d4⟩ := Sl.jb_at hSJ hkl
          subst eA
          have kz : (k : Int) < (l.length : Int) := by omega
          have kz10 : (k : Int) < 10 := by omega
          have hbit := bit_i64 m k hm62
          have hdq : p.drop q = k :: p.drop (q + 1) := by
            rw [List.drop_eq_getElem_cons hpq]
            congr 1
            have := (List.getElem?_eq_some_iff.1 hk).2
            exact this
          have hqq := HQ.out
          rw [hdq, ordJ_cons, hx] at hqq
          have hxr := rightJ_iff.1 (HW.out.right x (List.mem_of_getElem? hx))
          have hsb := HSb.out
          have htk : ∀ k', (k' ∈ p.take (q + 1) ↔ k' ∈ p.take q ∨ k' = k) := fun k' => by
            rw [take_of_get hk]; simp
          have HTK := hide htk
          clear hSo hSJ hy hdq htk d0 d1 d4 hkb
          by_cases hb1 : m / 2 ^ k % 2 = 1
          · have hbt : bt m k = true := decide_eq_true hb1
            rw [if_pos hbt] at hqq
            simp only [seqGo] at hqq
            have hg : (bits .and .i64 ((m : Int) / 2 ^ k) 1 == 0) = false := by rw [hbit, hb1]; rfl
            have hwr : IntKind.i64.wrap (s + x.need) = s + x.need := by rw [IntKind.wrap_i64]; omega
            by_cases hdu : x.due < s + x.need
            · have hg2 : decide (x.due < s + x.need) = true := decide_eq_true hdu
              rw [decide_eq_false (by omega), Bool.false_and, feas_seq HW.out HP.out.1 HP.out.2] at hqq
              have HF := hide hqq
              clear hqq hbit hb1 hdu hxr
              gi_wp2_with fail
              go_roundw
              case rel => exact ⟨m + 1, _, by omega, by go_num, by rw [feasL_succ, HF.out, if_neg (by simp), List.append_nil]; exact HC.out.bel hJ HBw.out, HKB⟩
              case measure => simp [nI]; omega
            · have hg2 : decide (x.due < s + x.need) = false := decide_eq_false hdu
              rw [decide_eq_true (by omega), Bool.true_and] at hqq
              have HQ2 := hide hqq
              have HG2 : Hid (∀ k', (fun k' => if k' = k then true else g k') k' = (decide (k' ∈ p.take (q + 1)) && bt m k')) := hide (fun k' => by
                show (if k' = k then true else g k') = _
                by_cases e : k' = k
                · subst e; rw [if_pos rfl, hbt, decide_eq_true ((HTK.out k').2 (.inr rfl))]; rfl
                · rw [if_neg e, HG.out k']
                  congr 1
                  rw [decide_eq_decide, HTK.out k']
                  simp [e])
              have p0 := HX.out.cell k (v := .bool (g k)) (by
                show (gA g)[k]? = _
                have hk10 : k < 10 := by omega
                match k, hk10 with
                | 0, _ => rfl | 1, _ => rfl | 2, _ => rfl | 3, _ => rfl | 4, _ => rfl | 5, _ => rfl | 6, _ => rfl | 7, _ => rfl | 8, _ => rfl | 9, _ => rfl
                | n + 10, h => omega)
              have pt := HX.out.thaw k
              have pl := HX.out.lt
              have HX2 := hide (HX.out.set k (.bool true) (gA_set g (by omega)))
              have HB2 := hide (show Below wo.heap.size wo (wr.setCell ⟨wo.heap.size, k, none⟩ (.bool true)) from HBw.out.setCell (by dsimp only; omega) _)
              have HS2 := hide (show 0 ≤ s + x.need ∧ s + x.need ≤ 1099511627776 by omega)
              clear hqq hbit hb1 hdu hxr
              gi_wp2_with fail
              go_roundw
              case rel => exact ⟨q + 1, _, _, by omega, by go_num, rfl, HX2, HB2, HQ2, HS2, HG2⟩
              case measure => simp [nI]; omega
          · have hbt : bt m k = false := decide_eq_false hb1
            rw [if_neg (by rw [hbt]; simp)] at hqq
            have hg : (bits .and .i64 ((m : Int) / 2 ^ k) 1 == 0) = true := by
              rw [hbit]
              have : m / 2 ^ k % 2 = 0 := by omega
              rw [this]; rfl
            have HQ2 := hide hqq
            have HG2 : Hid (∀ k', g k' = (decide (k' ∈ p.take (q + 1)) && bt m k')) := hide (fun k' => by
              rw [HG.out k']
              by_cases e : k' = k
              · subst e; rw [hbt, Bool.and_false, Bool.and_false]
              · congr 1
                rw [decide_eq_decide, HTK.out k']
                simp [e])
            clear hqq hbit hb1 hxr d2 d3
            gi_wp2_with fail
            go_roundw
            case rel => exact ⟨q + 1, _, g, by omega, by go_num, rfl, HX, HBw, HQ2, HSb, HG2⟩
            case measure => simp [nI]; omega
        · obtain rfl : q = l.length := by omega
          have hpl' : p.length ≤ l.length := by omega
          have hqq := HQ.out
          rw [feas_seq HW.out HP.out.1 HP.out.2, List.drop_of_length_le hpl'] at hqq
          have hfe : feasM l m = true := hqq
          have hgc : gA g = chA m := gA_is (fun k _ => by
            rw [HG.out k, List.take_of_length_le hpl']
            by_cases hk : k < l.length
            · rw [decide_eq_true (HP.out.1.symm.subset (by simpa using hk)), Bool.true_and]
            · rw [bt_high (n := l.length) (by rw [HN.out]; exact hlt) (by omega), Bool.and_false])
          have hX := HX.out
          rw [hgc] at hX
          have p0 := hX.cell (v := .bool (bt m 0)) 0 rfl
          have p1 := hX.cell (v := .bool (bt m 1)) 1 rfl
          have p2 := hX.cell (v := .bool (bt m 2)) 2 rfl
          have p3 := hX.cell (v := .bool (bt m 3)) 3 rfl
          have p4 := hX.cell (v := .bool (bt m 4)) 4 rfl
          have p5 := hX.cell (v := .bool (bt m 5)) 5 rfl
          have p6 := hX.cell (v := .bool (bt m 6)) 6 rfl
          have p7 := hX.cell (v := .bool (bt m 7)) 7 rfl
          have p8 := hX.cell (v := .bool (bt m 8)) 8 rfl
          have p9 := hX.cell (v := .bool (bt m 9)) 9 rfl
          have pl := hX.lt
          have HCB := hide (HC.out.bel hJ HBw.out)
          have HSC := hide (show (feasL l (m + 1)).length = (feasL l m).length + 1 by rw [feasL_succ, if_pos hfe]; simp)
          obtain ⟨fn, tmps, assign, body, hyy, hRR⟩ := HY.out (feasL l m).length #[chV m] _ wr (yields_at HN.out hlt hfe) HCB.out.j_ HCB.out.os (Nat.le_trans HCB.out.sz.1 HCB.out.sz.2)
          replace hRR := hide hRR
          simp only [chV, chA] at hyy
          clear hqq hfe hgc hX hSJ hkb HX HQ HG HSb
          gi_wp2_with fail
          refine hRR.out.mono ?_
          rintro e W' ⟨hK, (⟨rfl, hj'⟩ | ⟨rfl, hjx⟩)⟩
          · have HCY := hide (HCB.out.yield hK hj')
            have HKY : Hid (∀ x, (x < w0.heap.size ∨ x = B) → W'.heap[x]? = W.heap[x]?) := hide (fun x hx => (hK.keep x (by have := HRW.out x hx; omega) (.inr hx)).trans (HKB.out x hx))
            clear hK hj' hRR hyy p0 p1 p2 p3 p4 p5 p6 p7 p8 p9
            gi_wp2
            go_roundw
            case rel => exact ⟨m + 1, _, by omega, by go_num, by rw [HSC.out]; exact HCY, HKY⟩
            case measure => simp [nI]; omega
          · have hKz := hK.size
            have hOs := HCB.out.os
            have hz1' := HCB.out.sz
            gi_wp2
            rw [Exit.noGoto_ret]
            refine bodyPost_ret (results_none rfl _ _ _) rfl ?_
            exact ⟨⟨_, rfl⟩, _, fun x hx => by have := hOs x hx; omega, by omega, .inr hjx⟩
    · obtain rfl : m = N := by omega
      have hOs := HC.out.os
      have HCj := hide HC.out.j_
      have hNN := HN.out
      gi_wp2
      rw [Exit.noGoto_normal]
      refine bodyPost_end (results_none rfl _ _ _) rfl ?_
      exact ⟨⟨_, rfl⟩, O, hOs, Nat.le_trans hwoz.1 hwoz.2, .inl (by unfold yieldsH; rw [List.length_map, hNN]; exact HCj.out)⟩
end Go.Proofs.Ytbkokljelopcnaa
namespace Go.Proofs.Ytbkokljelopcnaa
open Go.RowKit Go.Mine Go.Mine.Q
attribute [local go_sem] Oper.semAt_some
theorem inTime53 (A : Option Addr) (n c : Nat) (w : World) : Calls Try.prog 53 #[.slice A n c] w fun e w' => e = .returned (.func (.func 77) #[] #[.pointer (some ⟨w.heap.size, 0, none⟩)]) ∧ w' = w.alloc (.cells #[.slice A n c] 78) := by
  go_enter Try.func53, Try.ntmps53
  go_wp2
  go_ret
  exact ⟨rfl, rfl⟩
set_option maxRecDepth 100000 in
set_option maxHeartbeats 4000000 in
theorem closure54 (A : Option Addr) (c : Nat) (l : List Jb) (m k p q : Nat) (w : World) (hS : Sl jbC 5 w A c l) (hl : l.length ≤ 10) (hp : Blk w p 76 #[.func (.func 51) #[] #[]]) (hq : Blk w q 22 #[.slice A l.length c]) :
    Calls Try.prog 54 #[chV m, chV k, .pointer (some ⟨p, 0, none⟩), .pointer (some ⟨q, 0, none⟩)] w fun e w' => e = .returned (.int .i64 (ordV l m k)) ∧ Below w.heap.size w w' := by
  have p0 := hp.cell (v := .func (.func 51) #[] #[]) 0 rfl
  have pl := hp.lt
  have q0 := hq.cell (v := .slice A l.length c) 0 rfl
  have ql := hq.lt
  have hb2 := kalloc (kalloc (Below.refl w.heap.size w) (.cells (chA m) 80)) (.cells (chA k) 80)
  have K := hide (order51 A c l m k _ (hS.bel hb2) hl)
  have HB := hide hb2
  clear hS hp hq hb2
  simp only [chA, chV] at K HB ⊢
  go_enter Try.func54, Try.ntmps54
  go_wp2_with fail
  refine K.out.mono ?_
  rintro e w1 ⟨rfl, hb⟩
  have HB1 := hide (kcall HB.out hb)
  clear hb
  go_wp2
  go_ret
  exact ⟨rfl, HB1.out⟩
end Go.Proofs.Ytbkokljelopcnaa
namespace Go.Proofs.Ytbkokljelopcnaa
open Go.RowKit Go.Mine Go.Mine.Q
attribute [local go_sem] Oper.semAt_some
/-- what the loop has found when it has seen some choices -/
structure F52 (l : List Jb) (w : World) (fn : Value) (s : List Nat) (X : World) : Prop where
  f : Blk X w.heap.size 77 #[fn]
  some_ : Blk X (w.heap.size + 2) 4 #[.bool (foldB l none s).isSome]
  x : ∃ g : Nat → Bool, Blk X (w.heap.size + 1) 80 (gA g) ∧ ∀ b, foldB l none s = some b → gA g = chA b
  bel : Below w.heap.size w X
theorem F52.step {l : List Jb} {w : World} {fn : Value} {s : List Nat} {X X' : World} {O O' : Nat → Prop} (h : F52 l w fn s X) (st : IStep O O' X X') (hO : ∀ b, O b → w.heap.size + 3 ≤ b) : F52 l w fn s X' := by
  obtain ⟨g, hg1, hg2⟩ := h.x
  have hz := h.some_.lt
  refine ⟨blk_heap h.f (st.keep _ h.f.lt (fun ho => by have := hO _ ho; omega)), blk_heap h.some_ (st.keep _ h.some_.lt (fun ho => by have := hO _ ho; omega)), ⟨g, blk_heap hg1 (st.keep _ hg1.lt (fun ho => by have := hO _ ho; omega)), hg2⟩, st.below h.bel h.bel.size (fun b hb => by have := hO b hb; omega)⟩
/-- values stored into a block, one after another -/
def puts (b : Nat) : World → Nat → List Value → World
  | X, _, [] => X
  | X, o, v :: r => puts b (X.setCell ⟨b, o, none⟩ v) (o + 1) r
def sets : Array Value → Nat → List Value → Array Value
  | cs, _, [] => cs
  | cs, o, v :: r => sets (cs.setIfInBounds o v) (o + 1) r
theorem blk_puts {b : Nat} {ty : TypeId} : ∀ (vs : List Value) {X : World} {o : Nat} {cs : Array Value}, Blk X b ty cs → Blk (puts b X o vs) b ty (sets cs o vs)
  | [], _, _, _, h => h
  | v :: r, _, o, _, h => blk_puts r (h.set o v rfl)
theorem puts_far {b x : Nat} (hx : x ≠ b) : ∀ (vs : List Value) (X : World) (o : Nat), (puts b X o vs).heap[x]? = X.heap[x]?
  | [], _, _ => rfl
  | v :: r, X, o => (puts_far hx r _ _).trans (Below.heap_setCell _ _ _ _ (by dsimp only; omega))
theorem puts_meta {b : Nat} : ∀ (vs : List Value) (X : World) (o : Nat), (puts b X o vs).heap.size = X.heap.size ∧ (puts b X o vs).os = X.os ∧ (puts b X o vs).tape = X.tape ∧ (puts b X o vs).output = X.output
  | [], _, _ => ⟨rfl, rfl, rfl, rfl⟩
  | v :: r, X, o => by
    obtain ⟨h1, h2, h3, h4⟩ := puts_meta (b := b) r (X.setCell ⟨b, o, none⟩ v) (o + 1)
    exact ⟨h1.trans (by simp [World.setCell]), h2, h3, h4⟩
def wput (X : World) (b m : Nat) : World := puts b X 0 (chL m)
theorem blk_put10 {X : World} {b m : Nat} {g : Nat → Bool} (h : Blk X b 80 (gA g)) : Blk (wput X b m) b 80 (chA m) := by
  have e : sets (gA g) 0 (chL m) = chA m := by
    simp only [sets, chL, gA, chA, Nat.zero_add, Nat.reduceAdd, List.setIfInBounds_toArray, List.set_cons_zero, List.set_cons_succ]
  have := blk_puts (chL m) h (o := 0)
  rw [e] at this
  exact this
theorem put10_far {X : World} {b m x : Nat} (hx : x ≠ b) : (wput X b m).heap[x]? = X.heap[x]? := puts_far hx _ _ _
theorem put10_size (X : World) (b m : Nat) : (wput X b m).heap.size = X.heap.size := (puts_meta _ _ _).1
theorem put10_kept {R : Nat → Prop} {A X : World} {b m : Nat} (h : Kept R A X) (hb : ¬ R b) : Kept R A (wput X b m) :=
  h.trans ⟨(puts_meta _ _ _).2.1, (puts_meta _ _ _).2.2.1, (puts_meta _ _ _).2.2.2, by rw [put10_size]; exact Nat.le_refl _, fun x _ hR => put10_far (fun e => hb (e ▸ hR))⟩
theorem put10_below {B : Nat} {A X : World} {b m : Nat} (h : Below B A X) (hb : B ≤ b) : Below B A (wput X b m) :=
  h.trans ⟨(puts_meta _ _ _).2.1, (puts_meta _ _ _).2.2.1, (puts_meta _ _ _).2.2.2, by rw [put10_size]; exact Nat.le_refl _, fun x hx => put10_far (by omega)⟩
theorem F52.put {l : List Jb} {w : World} {fn : Value} {s : List Nat} {X : World} {m : Nat} (h : F52 l w fn s X) (hf : foldB l none (s ++ [m]) = some m) : F52 l w fn (s ++ [m]) ((wput X (w.heap.size + 1) m).setCell ⟨w.heap.size + 2, 0, none⟩ (.bool true)) := by
  obtain ⟨g, hg1, hg2⟩ := h.x
  have e : ∀ x, x ≠ w.heap.size + 1 → (wput X (w.heap.size + 1) m).heap[x]? = X.heap[x]? := fun x hx => put10_far hx
  refine ⟨(blk_heap h.f (e _ (by omega))).far _ _ (by dsimp only; omega), ?_, ⟨bt m, ?_, fun b hb => ?_⟩, (put10_below h.bel (by omega)).setCell (by dsimp only; omega) _⟩
  · have := (blk_heap h.some_ (e _ (by omega))).set 0 (.bool true) rfl
    rw [hf]; exact this
  · exact (blk_put10 hg1).far _ _ (by dsimp only; omega)
  · rw [hf] at hb; cases hb; rfl
theorem blk_put {W : World} {b D : Nat} {ty : TypeId} {cs : Array Value} (o : Obj) (h : Blk W b ty cs) (hn : b ≠ D) : Blk (W.putObj D o) b ty cs := ⟨by simpa using h.lt, (World.putObj_heap_other hn).trans h.at_⟩
theorem at_worldIn {F : Fence} {n : Nat} {P : Program} {c : Code} {Q : Exit → Act → World → Prop} {a : Act} {w0 : World} (S : World → Prop) (h0 : S w0) (h : ∀ w3, S w3 → c.wpIn F n P Q a w3) : c.wpIn F n P Q a w0 := h w0 h0
set_option maxRecDepth 100000 in
set_option maxHeartbeats 8000000 in
theorem first52 (w0 w : World) (A : Option Addr) (c : Nat) (l : List Jb) (hS : Sl jbC 5 w0 A c l) (hz : errH l = 0) (hb : Below w0.heap.size w0 w) (B p q : Nat) (hB : w0.heap.size ≤ B) (hBx : Blk w B 78 #[.slice A l.length c]) (hp : Blk w p 76 #[.func (.func 51) #[] #[]]) (hq : Blk w q 22 #[.slice A l.length c]) :
    Calls Try.prog 52 #[.func (.func 77) #[] #[.pointer (some ⟨B, 0, none⟩)], .func (.func 54) #[] #[.pointer (some ⟨p, 0, none⟩), .pointer (some ⟨q, 0, none⟩)]] w fun e w' => e = .returned (chV (shedM l)) ∧ Below w.heap.size w w' := by
  have hl10 := (Wt.of hz).len
  obtain ⟨fn, hfn⟩ : ∃ fn, fn = Value.func (.func 54) #[] #[.pointer (some ⟨p, 0, none⟩), .pointer (some ⟨q, 0, none⟩)] := ⟨_, rfl⟩
  have KC := hide (fun m k W (h : Below w.heap.size w W) => closure54 A c l m k p q W ((hS.bel hb).bel h) hl10 (hp.bel h) (hq.bel h))
  have HITF := hide (fun (w4 : World) (hst : F52 l w fn [] w4) => inTime77_iter w0 w4 A c l hS hz (kcall hb hst.bel) B hB ((hBx.bel hst.bel).cell 0 rfl) (hBx.bel hst.bel).lt)
  have hBl := hBx.lt
  have HB := hide hb
  clear hS hz hp hq hBx hb
  refine (callsIn_wide (n := 9)).1 (callsIn_of_wp_marks Try.func52 rfl trivial ?_ rfl)
  simp only [Try.ntmps52]
  simp only [List.size_toArray, List.length_cons, List.length_nil, Nat.reduceAdd, Nat.reduceSub, Array.replicate_succ, Array.replicate_zero, List.push_toArray, List.append_toArray, List.nil_append, List.cons_append]
  subst hfn
  gi_wp2_with fail
  refine at_worldIn (fun w4 => F52 l w (Value.func (.func 54) #[] #[.pointer (some ⟨p, 0, none⟩), .pointer (some ⟨q, 0, none⟩)]) [] w4 ∧ w4.heap.size = w.heap.size + 3) ?_ ?_
  · exact ⟨⟨((Blk.new w _ _).alloc _).alloc _, Blk.new2 w _ _ _ _, ⟨fun _ => false, (Blk.new1 w _ _ _).alloc _, fun b h => by cases h⟩, kalloc (kalloc (kalloc (Below.refl _ _) _) _) _⟩, by simp⟩
  rintro w4 ⟨hst, hz4⟩
  have HIT := hide (HITF.out w4 hst)
  have HST := hide hst
  clear hst HITF
  refine wpIn_rangeG (gf := 77) (lb := #[.pointer (some ⟨B, 0, none⟩)]) rfl (enters_of Try.func77 (by kernel_rfl) rfl) (fun m : Nat => #[chV m]) HIT.out (Nat.le_refl _) (fun b hb' => ⟨by have := HB.out.size; rcases hb' with h | h <;> omega, rfl⟩) (fun _ => rfl)
    (fun k O X => (∀ b, O b → w4.heap.size ≤ b) ∧ w4.heap.size ≤ X.heap.size ∧ Hid (F52 l w (Value.func (.func 54) #[] #[.pointer (some ⟨p, 0, none⟩), .pointer (some ⟨q, 0, none⟩)]) ((feasL l (2 ^ l.length)).take k) X))
    (fun c O X => False)
    ?_ ?_ ?_ ?body ?done ?stop
  · rintro k O O' X X' ⟨h1, h2, h3⟩ st
    exact ⟨O_step st h1 h2, Nat.le_trans h2 st.size, h3.out.step st (fun b hb => by have := h1 b hb; omega)⟩
  · exact fun _ _ _ _ _ h _ => h
  · exact ⟨fun b hb => hb.elim, Nat.le_refl _, by rw [List.take_zero]; exact HST.out⟩
  case body =>
    rintro lp k m O X hx ⟨h1, h2, h3⟩ hO hzX
    have H1 := hide h1
    have HO := hide hO
    have HTK := hide (take_of_get hx)
    have HF := hide h3
    have hXb := h3.out.bel.size
    clear h1 h3 hO hx
    simp only [chV, chA]
    gi_wp2
    refine ⟨(Kept.refl _ _).alloc _, fun W2 st hzW => ?_⟩
    rw [World.size_alloc] at hzW
    have hF2 : F52 l w (Value.func (.func 54) #[] #[.pointer (some ⟨p, 0, none⟩), .pointer (some ⟨q, 0, none⟩)]) ((feasL l (2 ^ l.length)).take k) W2 := F52.step (O := O) ⟨HF.out.f.alloc _, HF.out.some_.alloc _, (by obtain ⟨g, h1, h2⟩ := HF.out.x; exact ⟨g, h1.alloc _, h2⟩), kalloc HF.out.bel _⟩ st (fun b hb => by have := H1.out b hb; omega)
    have nb : Blk W2 X.heap.size 80 (chA m) := blk_heap (Blk.new X _ _) (st.keep _ (by simp) (fun ho => by have := HO.out _ ho; omega))
    obtain ⟨g, hg1, hg2⟩ := hF2.x
    have hf0 := hF2.f.cell (v := Value.func (.func 54) #[] #[.pointer (some ⟨p, 0, none⟩), .pointer (some ⟨q, 0, none⟩)]) 0 rfl
    have hs0 := hF2.some_.cell 0 rfl
    have hst0 := hF2.some_.thaw 0
    have hsl := hF2.some_.lt
    have n0 := nb.cell (v := .bool (bt m 0)) 0 rfl
    have n1 := nb.cell (v := .bool (bt m 1)) 1 rfl
    have n2 := nb.cell (v := .bool (bt m 2)) 2 rfl
    have n3 := nb.cell (v := .bool (bt m 3)) 3 rfl
    have n4 := nb.cell (v := .bool (bt m 4)) 4 rfl
    have n5 := nb.cell (v := .bool (bt m 5)) 5 rfl
    have n6 := nb.cell (v := .bool (bt m 6)) 6 rfl
    have n7 := nb.cell (v := .bool (bt m 7)) 7 rfl
    have n8 := nb.cell (v := .bool (bt m 8)) 8 rfl
    have n9 := nb.cell (v := .bool (bt m 9)) 9 rfl
    have g0 := hg1.cell (v := .bool (g 0)) 0 rfl
    have t0 := hg1.thaw 0
    have g1 := hg1.cell (v := .bool (g 1)) 1 rfl
    have t1 := hg1.thaw 1
    have g2 := hg1.cell (v := .bool (g 2)) 2 rfl
    have t2 := hg1.thaw 2
    have g3 := hg1.cell (v := .bool (g 3)) 3 rfl
    have t3 := hg1.thaw 3
    have g4 := hg1.cell (v := .bool (g 4)) 4 rfl
    have t4 := hg1.thaw 4
    have g5 := hg1.cell (v := .bool (g 5)) 5 rfl
    have t5 := hg1.thaw 5
    have g6 := hg1.cell (v := .bool (g 6)) 6 rfl
    have t6 := hg1.thaw 6
    have g7 := hg1.cell (v := .bool (g 7)) 7 rfl
    have t7 := hg1.thaw 7
    have g8 := hg1.cell (v := .bool (g 8)) 8 rfl
    have t8 := hg1.thaw 8
    have g9 := hg1.cell (v := .bool (g 9)) 9 rfl
    have t9 := hg1.thaw 9
    have nl := nb.lt
    have HF2 := hide hF2
    have HN := hide nb
    have HG := hide (And.intro hg1 hg2)
    clear hF2 nb hg1 hg2 st HF
    cases ho : foldB l none ((feasL l (2 ^ l.length)).take k) with
    | none =>
      rw [ho] at hs0
      simp only [Option.isSome_none] at hs0
      have HFP := hide (HF2.out.put (m := m) (by rw [foldB_snoc, ho]; rfl))
      have HKP : Hid (Kept (fun b => O b ∨ (b < w0.heap.size ∨ b = B)) W2 ((wput W2 (w.heap.size + 1) m).setCell ⟨w.heap.size + 2, 0, none⟩ (.bool true))) := hide ((put10_kept (Kept.refl _ _) (by
        rintro (h | h | h)
        · have := H1.out _ h; omega
        · have := HB.out.size; omega
        · omega)).setCell _ (by
        rintro (h | h | h)
        · have := H1.out _ h; dsimp only at this; omega
        · have := HB.out.size; dsimp only at h; omega
        · dsimp only at h; omega))
      have HZP := hide (show w4.heap.size ≤ ((wput W2 (w.heap.size + 1) m).setCell ⟨w.heap.size + 2, 0, none⟩ (.bool true)).heap.size by have := put10_size W2 (w.heap.size + 1) m; simp [World.setCell, this] ; omega)
      rw [← HTK.out] at HFP
      clear HF2 HN HG
      gi_wp2_with fail
      exact ⟨HKP.out, H1.out, HZP.out, HFP⟩
    | some b =>
      rw [ho] at hs0
      simp only [Option.isSome_some] at hs0
      clear g0 t0 g1 t1 g2 t2 g3 t3 g4 t4 g5 t5 g6 t6 g7 t7 g8 t8 g9 t9 hst0 hsl
      have hb1 : Blk W2 (w.heap.size + 1) 80 (chA b) := by rw [← HG.out.2 b ho]; exact HG.out.1
      have e0 := (hb1).cell (v := .bool (bt b 0)) 0 rfl
      have e1 := (hb1).cell (v := .bool (bt b 1)) 1 rfl
      have e2 := (hb1).cell (v := .bool (bt b 2)) 2 rfl
      have e3 := (hb1).cell (v := .bool (bt b 3)) 3 rfl
      have e4 := (hb1).cell (v := .bool (bt b 4)) 4 rfl
      have e5 := (hb1).cell (v := .bool (bt b 5)) 5 rfl
      have e6 := (hb1).cell (v := .bool (bt b 6)) 6 rfl
      have e7 := (hb1).cell (v := .bool (bt b 7)) 7 rfl
      have e8 := (hb1).cell (v := .bool (bt b 8)) 8 rfl
      have e9 := (hb1).cell (v := .bool (bt b 9)) 9 rfl
      have hb1l := hb1.lt
      have K := hide (KC.out m b W2 HF2.out.bel)
      simp only [chV, chA] at K
      have hneg := ordV_neg hl10 m b
      generalize ordV l m b = r at *
      have HHO := hide ho
      clear hb1 ho
      by_cases hlt : r < 0
      · have hg : decide (r < 0) = true := decide_eq_true hlt
        have HLS := hide (hneg.1 hlt)
        clear hneg hlt
        gi_wp2_with fail
        refine (callsIn_wide.2 K.out).mono ?_
        rintro e w6 ⟨rfl, hb6⟩
        have hF6 := F52.step (O := fun _ => False) HF2.out (IStep.of_below hb6) (fun _ h => h.elim)
        have hn6 := HN.out.bel hb6
        obtain ⟨g6, hg6, _⟩ := hF6.x
        have hst6 := hF6.some_.thaw 0
        have hs6 := hF6.some_.cell 0 rfl
        have hsl6 := hF6.some_.lt
        clear n0 e0 n1 e1 n2 e2 n3 e3 n4 e4 n5 e5 n6 e6 n7 e7 n8 e8 n9 e9
        have n0 := hn6.cell (v := .bool (bt m 0)) 0 rfl
        have x0 := hg6.cell (v := .bool (g6 0)) 0 rfl
        have t0 := hg6.thaw 0
        have n1 := hn6.cell (v := .bool (bt m 1)) 1 rfl
        have x1 := hg6.cell (v := .bool (g6 1)) 1 rfl
        have t1 := hg6.thaw 1
        have n2 := hn6.cell (v := .bool (bt m 2)) 2 rfl
        have x2 := hg6.cell (v := .bool (g6 2)) 2 rfl
        have t2 := hg6.thaw 2
        have n3 := hn6.cell (v := .bool (bt m 3)) 3 rfl
        have x3 := hg6.cell (v := .bool (g6 3)) 3 rfl
        have t3 := hg6.thaw 3
        have n4 := hn6.cell (v := .bool (bt m 4)) 4 rfl
        have x4 := hg6.cell (v := .bool (g6 4)) 4 rfl
        have t4 := hg6.thaw 4
        have n5 := hn6.cell (v := .bool (bt m 5)) 5 rfl
        have x5 := hg6.cell (v := .bool (g6 5)) 5 rfl
        have t5 := hg6.thaw 5
        have n6 := hn6.cell (v := .bool (bt m 6)) 6 rfl
        have x6 := hg6.cell (v := .bool (g6 6)) 6 rfl
        have t6 := hg6.thaw 6
        have n7 := hn6.cell (v := .bool (bt m 7)) 7 rfl
        have x7 := hg6.cell (v := .bool (g6 7)) 7 rfl
        have t7 := hg6.thaw 7
        have n8 := hn6.cell (v := .bool (bt m 8)) 8 rfl
        have x8 := hg6.cell (v := .bool (g6 8)) 8 rfl
        have t8 := hg6.thaw 8
        have n9 := hn6.cell (v := .bool (bt m 9)) 9 rfl
        have x9 := hg6.cell (v := .bool (g6 9)) 9 rfl
        have t9 := hg6.thaw 9
        have nl6 := hn6.lt
        have hz6 := hb6.size
        have HFP := hide (hF6.put (m := m) (by rw [foldB_snoc, HHO.out]; show some (if _ then _ else _) = _; rw [if_pos HLS.out]))
        have HKP : Hid (Kept (fun b => O b ∨ (b < w0.heap.size ∨ b = B)) W2 ((wput w6 (w.heap.size + 1) m).setCell ⟨w.heap.size + 2, 0, none⟩ (.bool true))) := hide ((put10_kept (Kept.of_below hb6) (by
          rintro (h | h | h)
          · have := H1.out _ h; omega
          · have := HB.out.size; omega
          · omega)).setCell _ (by
          rintro (h | h | h)
          · have := H1.out _ h; dsimp only at this; omega
          · have := HB.out.size; dsimp only at h; omega
          · dsimp only at h; omega))
        have HZP := hide (show w4.heap.size ≤ ((wput w6 (w.heap.size + 1) m).setCell ⟨w.heap.size + 2, 0, none⟩ (.bool true)).heap.size by have := put10_size w6 (w.heap.size + 1) m; simp [World.setCell, this]; omega)
        rw [← HTK.out] at HFP
        clear HF2 HN HG hb6 hF6 hn6 hg6 K
        gi_wp2_with fail
        exact ⟨HKP.out, H1.out, HZP.out, HFP⟩
      · have hg : decide (r < 0) = false := decide_eq_false hlt
        have hls : ¬ lessC (chM l m) (chM l b) = true := fun h => hlt (hneg.2 h)
        have hsame : foldB l none ((feasL l (2 ^ l.length)).take (k + 1)) = foldB l none ((feasL l (2 ^ l.length)).take k) := by
          rw [HTK.out, foldB_snoc, HHO.out]; show some (if _ then _ else _) = _; rw [if_neg hls]
        have HSM := hide hsame
        clear hneg hlt hls hsame
        gi_wp2_with fail
        refine (callsIn_wide.2 K.out).mono ?_
        rintro e w6 ⟨rfl, hb6⟩
        have hF6 := F52.step (O := fun _ => False) HF2.out (IStep.of_below hb6) (fun _ h => h.elim)
        have hF7 : F52 l w (Value.func (.func 54) #[] #[.pointer (some ⟨p, 0, none⟩), .pointer (some ⟨q, 0, none⟩)]) ((feasL l (2 ^ l.length)).take (k + 1)) w6 := ⟨hF6.f, by rw [HSM.out]; exact hF6.some_, by rw [HSM.out]; exact hF6.x, hF6.bel⟩
        have HF7 := hide hF7
        have HKP := hide (Kept.of_below (R := fun b => O b ∨ (b < w0.heap.size ∨ b = B)) hb6)
        have hz6 := hb6.size
        clear hF6 hF7 hb6 K
        gi_wp2_with fail
        exact ⟨HKP.out, H1.out, by omega, HF7⟩
  case done =>
    rintro O X ⟨h1, h2, h3⟩ hO hd hod hzX
    rw [List.take_length] at h3
    have hfs := fold_shed l
    obtain ⟨g, hg1, hg2⟩ := h3.out.x
    rw [hg2 _ hfs] at hg1
    have e0 := hg1.cell (v := .bool (bt (shedM l) 0)) 0 rfl
    have t0 := hg1.thaw 0
    have e1 := hg1.cell (v := .bool (bt (shedM l) 1)) 1 rfl
    have t1 := hg1.thaw 1
    have e2 := hg1.cell (v := .bool (bt (shedM l) 2)) 2 rfl
    have t2 := hg1.thaw 2
    have e3 := hg1.cell (v := .bool (bt (shedM l) 3)) 3 rfl
    have t3 := hg1.thaw 3
    have e4 := hg1.cell (v := .bool (bt (shedM l) 4)) 4 rfl
    have t4 := hg1.thaw 4
    have e5 := hg1.cell (v := .bool (bt (shedM l) 5)) 5 rfl
    have t5 := hg1.thaw 5
    have e6 := hg1.cell (v := .bool (bt (shedM l) 6)) 6 rfl
    have t6 := hg1.thaw 6
    have e7 := hg1.cell (v := .bool (bt (shedM l) 7)) 7 rfl
    have t7 := hg1.thaw 7
    have e8 := hg1.cell (v := .bool (bt (shedM l) 8)) 8 rfl
    have t8 := hg1.thaw 8
    have e9 := hg1.cell (v := .bool (bt (shedM l) 9)) 9 rfl
    have t9 := hg1.thaw 9
    have hl1 := hg1.lt
    have HX1 : Hid (Blk (wput X (w.heap.size + 1) (shedM l)) (w.heap.size + 1) 80 (chA (shedM l))) := hide (blk_put10 (g := bt (shedM l)) hg1)
    have HBE := hide (put10_below (m := shedM l) (b := w.heap.size + 1) h3.out.bel (by omega))
    have HD : Hid ((wput X (w.heap.size + 1) (shedM l)).heap[w4.heap.size]? = some (.deferred (some []))) := hide ((put10_far (by omega)).trans hd)
    have HZ := hide (put10_size X (w.heap.size + 1) (shedM l))
    clear h3 hg1 hg2 hd
    gi_wp2_with fail
    show bodyPostM _ _ _ _ _ _ _ (wput X (w.heap.size + 1) (shedM l))
    have hP := blk_put (D := w4.heap.size) (.deferred none) HX1.out (by omega)
    have c0 := hP.cell (v := .bool (bt (shedM l) 0)) 0 rfl
    have c1 := hP.cell (v := .bool (bt (shedM l) 1)) 1 rfl
    have c2 := hP.cell (v := .bool (bt (shedM l) 2)) 2 rfl
    have c3 := hP.cell (v := .bool (bt (shedM l) 3)) 3 rfl
    have c4 := hP.cell (v := .bool (bt (shedM l) 4)) 4 rfl
    have c5 := hP.cell (v := .bool (bt (shedM l) 5)) 5 rfl
    have c6 := hP.cell (v := .bool (bt (shedM l) 6)) 6 rfl
    have c7 := hP.cell (v := .bool (bt (shedM l) 7)) 7 rfl
    have c8 := hP.cell (v := .bool (bt (shedM l) 8)) 8 rfl
    have c9 := hP.cell (v := .bool (bt (shedM l) 9)) 9 rfl
    exact leaves_mark1 (v := chV (shedM l)) HD.out (by simp [results, Try.results52, go_sem, chV, chA, c0, c1, c2, c3, c4, c5, c6, c7, c8, c9]) ⟨rfl, below_put HBE.out _ (by omega)⟩
  case stop =>
    rintro c O X h
    exact h.elim
end Go.Proofs.Ytbkokljelopcnaa
namespace Go.Proofs.Ytbkokljelopcnaa
open Go.RowKit Go.Mine Go.Mine.Q
attribute [local go_sem] Oper.semAt_some
theorem run_store_func {P : Program} {w : World} {a : Addr} {m : Mode} (f : Fn) (x y : Array Value) : (store a (.func f x y) m).run P w = stored P w a (.func f x y) m := run_store P w a _ m rfl
attribute [local go_sem] run_store_func
set_option maxRecDepth 100000 in
set_option maxHeartbeats 8000000 in
theorem shed31_good (A : Option Addr) (c : Nat) (l : List Jb) (w : World) (hS : Sl jbC 5 w A c l) (hz : errH l = 0) : Calls Try.prog 31 #[.slice A l.length c] w (ShedE l w) := by
  have hl10 := (Wt.of hz).len
  obtain ⟨w1, hw1⟩ : ∃ w1, w.alloc (.cells #[.slice A l.length c] 22) = w1 := ⟨_, rfl⟩
  have hb1 : Below w.heap.size w w1 := by rw [← hw1]; exact kalloc (Below.refl _ _) _
  have hq1 : Blk w1 w.heap.size 22 #[.slice A l.length c] := by rw [← hw1]; exact Blk.new _ _ _
  have q0 := hq1.cell (v := .slice A l.length c) 0 rfl
  have ql := hq1.lt
  have K1 := hide (error50 A c l w1 (hS.bel hb1))
  rw [hz] at K1
  have HS := hide hS
  have HZ := hide hz
  have HB1 := hide hb1
  have HQ1 := hide hq1
  unfold ShedE
  rw [if_pos hz, if_pos hz, if_pos hz, hz]
  clear hS hz hb1 hq1
  go_enter Try.func31, Try.ntmps31
  go_wp2_with fail
  refine K1.out.mono ?_
  rintro e w2 ⟨rfl, hb2⟩
  have HB2 := hide (kcall HB1.out hb2)
  have HQ2 := hide (HQ1.out.bel hb2)
  have q2 := HQ2.out.cell (v := .slice A l.length c) 0 rfl
  have ql2 := HQ2.out.lt
  clear hb2 K1 HQ1 HB1 q0 ql hw1
  have hB3 := kalloc HB2.out (.cells #[.func (.func 51) #[] #[]] 76)
  have HB3 := hide hB3
  have HP3 := hide (Blk.new w2 #[.func (.func 51) #[] #[]] 76)
  have HQ3 := hide (HQ2.out.alloc (.cells #[.func (.func 51) #[] #[]] 76))
  have KT := hide (inTime53 A l.length c (w2.alloc (.cells #[.func (.func 51) #[] #[]] 76)))
  clear hB3
  go_wp2_with fail
  refine KT.out.mono ?_
  rintro e w4 ⟨rfl, hw4⟩
  have hb4 : Below (w2.alloc (.cells #[.func (.func 51) #[] #[]] 76)).heap.size (w2.alloc (.cells #[.func (.func 51) #[] #[]] 76)) w4 := by rw [hw4]; exact kalloc (Below.refl _ _) _
  have hB4 : Blk w4 (w2.heap.size + 1) 78 #[.slice A l.length c] := by rw [hw4]; exact Blk.new1 _ _ _ _
  have HB4 := hide (kcall HB3.out hb4)
  have HQ4 := hide (HQ3.out.bel hb4)
  have KF := hide (first52 w w4 A c l HS.out HZ.out HB4.out (w2.heap.size + 1) w2.heap.size w.heap.size (by have := HB2.out.size; omega) hB4 (HP3.out.bel hb4) HQ4.out)
  simp only [World.size_alloc] at *
  clear hw4 hb4 hB4 q2 ql2
  go_wp2_with fail
  refine KF.out.mono ?_
  rintro e w5 ⟨rfl, hb5⟩
  have HB5 := hide (kcall HB4.out hb5)
  have HQ5 := hide (HQ4.out.bel hb5)
  have q5 := HQ5.out.cell (v := .slice A l.length c) 0 rfl
  have ql5 := HQ5.out.lt
  have HB6 := hide (kalloc HB5.out (.cells (chA (shedM l)) 80))
  have HX6 := hide (Blk.new w5 (chA (shedM l)) 80)
  have HQ6 := hide (HQ5.out.alloc (.cells (chA (shedM l)) 80))
  have KL := hide (lost55 A c l (shedM l) _ (HS.out.bel HB6.out) hl10)
  simp only [chA, chV] at HB6 HX6 HQ6 KL
  clear hb5 KF HP3 HB4 HB3 HQ4 HQ3 KT
  simp only [chV, chA]
  go_wp2_with fail
  refine KL.out.mono ?_
  rintro e w7 ⟨rfl, hb7⟩
  have HB7 := hide (kcall HB6.out hb7)
  have HQ7 := hide (HQ6.out.bel hb7)
  have HX7 : Hid (Blk w7 w5.heap.size 80 (chA (shedM l))) := hide (HX6.out.bel hb7)
  have q7 := HQ7.out.cell (v := .slice A l.length c) 0 rfl
  have ql7 := HQ7.out.lt
  have e0 := HX7.out.cell (v := .bool (bt (shedM l) 0)) 0 rfl
  have e1 := HX7.out.cell (v := .bool (bt (shedM l) 1)) 1 rfl
  have e2 := HX7.out.cell (v := .bool (bt (shedM l) 2)) 2 rfl
  have e3 := HX7.out.cell (v := .bool (bt (shedM l) 3)) 3 rfl
  have e4 := HX7.out.cell (v := .bool (bt (shedM l) 4)) 4 rfl
  have e5 := HX7.out.cell (v := .bool (bt (shedM l) 5)) 5 rfl
  have e6 := HX7.out.cell (v := .bool (bt (shedM l) 6)) 6 rfl
  have e7 := HX7.out.cell (v := .bool (bt (shedM l) 7)) 7 rfl
  have e8 := HX7.out.cell (v := .bool (bt (shedM l) 8)) 8 rfl
  have e9 := HX7.out.cell (v := .bool (bt (shedM l) 9)) 9 rfl
  have xl7 := HX7.out.lt
  have KN := hide (numbers56 A c l (shedM l) w7 (HS.out.bel HB7.out) hl10)
  simp only [chA, chV] at KN
  clear hb7 KL q5 ql5
  go_wp2_with fail
  refine KN.out.mono ?_
  rintro e w8 ⟨D, d, rfl, hSd, hb8⟩
  have HSd := hide hSd
  have HB8 := hide (kcall HB7.out hb8)
  clear hSd hb8 KN e0 e1 e2 e3 e4 e5 e6 e7 e8 e9
  go_wp2
  exact bodyPost_ret (v := .tuple #[.slice D (nosM l (shedM l)).length d, .int .i64 (lostM l (shedM l)).1, .int .i64 (lostM l (shedM l)).2, .int .i64 0]) (by simp [results, Try.results31, go_sem]) rfl ⟨D, d, rfl, HSd.out, HB8.out⟩
theorem shed31 (A : Option Addr) (c : Nat) (l : List Jb) (w : World) (hS : Sl jbC 5 w A c l) : Calls Try.prog 31 #[.slice A l.length c] w (ShedE l w) := by
  by_cases hz : errH l = 0
  · exact shed31_good A c l w hS hz
  · have hb1 : Below w.heap.size w (w.alloc (.cells #[.slice A l.length c] 22)) := kalloc (Below.refl _ _) _
    have K := hide (error50 A c l _ (hS.bel hb1))
    have HB := hide hb1
    have gz : (errH l != 0) = true := by simpa using hz
    unfold ShedE
    rw [if_neg hz, if_neg hz, if_neg hz]
    generalize errH l = z at K gz ⊢
    clear hS hz hb1
    go_enter Try.func31, Try.ntmps31
    go_wp2_with fail
    refine K.out.mono ?_
    rintro e w1 ⟨rfl, hb⟩
    have HB1 := hide (kcall HB.out hb)
    clear hb
    go_wp2
    exact bodyPost_ret (v := .tuple #[.slice none 0 0, .int .i64 0, .int .i64 0, .int .i64 z]) (by simp [results, Try.results31, go_sem]) rfl ⟨none, 0, rfl, Sl.nil (by decide), HB1.out⟩
end Go.Proofs.Ytbkokljelopcnaa
