/-
  A set of numbers: add, the closure that looks it up; ContainsFunc with it.
  provenance.lists' iterator; union.
-/
import Derived.Test.YtkfdafeonhnloaaGreatDoorGM27
namespace Go.Proofs.YtkfdafeonhnloaaGreatDoor.Pv
open Go.Proofs.YtkfdafeonhnloaaGreatDoor
open Go.RowKit Go.Shelf Go.Mine

def setM (s : List Int) : Int → Option Value := fun k => if k ∈ s then some (.bool true) else none
theorem setM_add (s : List Int) (x : Int) : upd (setM s) x (.bool true) = setM (s ++ [x]) := by
 funext j
 unfold upd setM
 by_cases h : j = x
 ·subst h; simp
 ·simp [h]
theorem setM_nil : setM [] = fun _ => none := by funext j; simp [setM]
theorem setM_some (s : List Int) (k : Int) : (setM s k).isSome = true ↔ k ∈ s := by unfold setM; split <;> simp_all
theorem setM_get (s : List Int) (k : Int) : (setM s k).getD (.bool false) = .bool (s.contains k) := by
 unfold setM
 by_cases h : k ∈ s
 ·rw [if_pos h]; simp [h]
 ·rw [if_neg h]; simp [h]
theorem map_apart {P : Program} {K : TypeId} {w : World} {b n : Nat} {m : Int → Option Value} (h : MapI P K w b n m) {p : Addr} {v : Value} (hc : w.cell? p = some v) : p.block ≠ b := by
 rintro rfl
 obtain ⟨D, ⟨es, clock, hb, _⟩, _⟩ := h
 simp [World.cell?, hb] at hc
set_option maxHeartbeats 1000000 in
theorem add29_any (b n : Nat) (s : List Int) (A : Option Addr) (c : Nat) (l : List Int) (w : World) (h : MapI Tryz.prog 3 w b n (setM s)) (hS : Sl ic 1 w A c l) (hI : ∀ y ∈ l, I64 y) (hn : n + l.length ≤ 1000000000) :
  Calls Tryz.prog 28 #[.map (some b), .slice A l.length c] w fun e w' => e = .returned (.tuple #[]) ∧ MapI Tryz.prog 3 w' b (n + l.length) (setM (s ++ l)) ∧ w.grownBy w' (some b) := by
 have hlc := hS.le
 have hc := hS.max
 go_enter Tryz.func28, Tryz.ntmps28
 go_wp2
 go_loopw [8] (fun i wr => ∃ k : Nat, k ≤ l.length ∧ i = .int .i64 k ∧ MapI Tryz.prog 3 wr b (n + k) (setM (s ++ l.take k)) ∧ w.grownBy wr (some b)) (fun i _ => l.length - (nI i).toNat)
 case atStart => exact ⟨0, Nat.zero_le _, rfl, by simpa using h, World.grownBy.refl w _⟩
 case round =>
  obtain ⟨k, hk, rfl, hM, hg⟩ := hrel
  by_cases hlt : k < l.length
  ·obtain ⟨x, bb, off, hx, hdr, rfl, hbw, c0⟩ := Sl.ic_at hS hlt
   have hbb := map_apart h c0
   have c1 := gcell hg hbw (fun e => hbb (Option.some.inj e)) c0
   have hbr : bb < wr.heap.size := Nat.lt_of_lt_of_le hbw hg.size
   have hix := hI x (List.mem_of_getElem? hx)
   have e1 := hide (take_of_get hx)
   have HM := hide hM
   have HG := hide hg
   clear hdr hx hS h hI hM hg c0 hbb
   go_wp2_with (at_mapUpdate; refine wpList_put rfl (.tmp 12) (.tmp 13) (.const (.bool true)) 74 rfl Tryz.underlying3 Tryz.underlying74 rfl HM.out ?_ rfl hix rfl ?_)
   ·unfold maxLen; omega
   ·intro w1 hM1 hg1
    rw [setM_add, List.append_assoc, ← e1.out] at hM1
    have hG1 := hide (gb_trans HG.out hg1)
    replace hM1 := hide hM1
    clear hg1 HG HM
    go_wp2
    go_roundw
    case rel => exact ⟨k + 1, by omega, by go_num, hM1.out, hG1.out⟩
    case measure => simp [nI]; omega
  ·obtain rfl : k = l.length := by omega
   rw [List.take_length] at hM
   have HM := hide hM
   clear hM
   go_wp2
   go_end0
   exact ⟨rfl, HM.out, hg⟩
theorem look31_any (k : Int) (p b n : Nat) (s : List Int) (w : World) (hk : I64 k) (hp : Blk w p 74 #[.map (some b)]) (h : MapI Tryz.prog 3 w b n (setM s)) :
  Calls Tryz.prog 30 #[.int .i64 k, .pointer (some ⟨p, 0, none⟩)] w fun e w' => e = .returned (.bool (s.contains k)) ∧ w = w' := by
 have y0 := hp.cell (v := .map (some b)) 0 rfl
 have z0 := hp.lt
 have hl := h.look Tryz.underlying3 Tryz.underlying74 (Tryz.zeroValue4 w) hk
 rw [setM_get] at hl
 generalize s.contains k = r at hl ⊢
 clear hp h
 go_enter Tryz.func30, Tryz.ntmps30
 go_wp2
 go_ret
 exact ⟨rfl, rfl⟩
set_option maxHeartbeats 1000000 in
theorem index35_any (A : Option Addr) (c : Nat) (l : List Int) (p b n : Nat) (s : List Int) (w : World) (hS : Sl ic 1 w A c l) (hI : ∀ y ∈ l, I64 y) (hp : Blk w p 74 #[.map (some b)]) (h : MapI Tryz.prog 3 w b n (setM s)) :
  Calls Tryz.prog 61 #[.slice A l.length c, .func (.func 30) #[] #[.pointer (some ⟨p, 0, none⟩)]] w fun e w' => (∃ i : Int, e = .returned (.int .i64 i) ∧ decide (0 ≤ i) = P.meets s l) ∧ w = w' := by
 have hlc := hS.le
 have hc := hS.max
 have KW := hide (fun k hk => look31_any k p b n s w hk hp h)
 clear hp h
 go_enter Tryz.func61, Tryz.ntmps61
 go_wp2
 go_loop [8] (fun i => ∃ k : Nat, k ≤ l.length ∧ i = .int .i64 k ∧ P.meets s l = P.meets s (l.drop k)) (fun i => l.length - (nI i).toNat)
 case atStart => exact ⟨0, Nat.zero_le _, rfl, rfl⟩
 case round =>
  obtain ⟨k, hk, rfl, hq⟩ := hrel
  by_cases hlt : k < l.length
  ·obtain ⟨x, bb, off, hx, hdr, rfl, hbw, c1⟩ := Sl.ic_at hS hlt
   rw [hdr, P.meets, P.meets, List.any_cons] at hq
   have K := hide (KW.out x (hI x (List.mem_of_getElem? hx)))
   generalize s.contains x = r at K hq
   clear hdr hx hS hI
   cases r
   ·rw [Bool.false_or] at hq
    have H := hide hq
    clear hq
    go_wp2_with fail
    refine (K.out).mono ?_
    rintro e w' ⟨rfl, rfl⟩
    go_wp2
    go_round
    case rel => exact ⟨k + 1, by omega, by go_num, H.out⟩
    case measure => simp [nI]; omega
   ·rw [Bool.true_or] at hq
    have H := hide hq
    clear hq
    go_wp2_with fail
    refine (K.out).mono ?_
    rintro e w' ⟨rfl, rfl⟩
    go_wp2
    go_ret
    exact ⟨⟨_, rfl, by rw [P.meets, H.out]; simp⟩, rfl⟩
  ·rw [List.drop_of_length_le (by omega)] at hq
   have H := hide hq
   clear hq
   go_wp2
   go_ret
   exact ⟨⟨_, rfl, by rw [H.out]; rfl⟩, rfl⟩
theorem contains30_any (A : Option Addr) (c : Nat) (l : List Int) (p b n : Nat) (s : List Int) (w : World) (hS : Sl ic 1 w A c l) (hI : ∀ y ∈ l, I64 y) (hp : Blk w p 74 #[.map (some b)]) (h : MapI Tryz.prog 3 w b n (setM s)) :
  Calls Tryz.prog 29 #[.slice A l.length c, .func (.func 30) #[] #[.pointer (some ⟨p, 0, none⟩)]] w fun e w' => e = .returned (.bool (P.meets s l)) ∧ w = w' := by
 have K := hide (index35_any A c l p b n s w hS hI hp h)
 generalize P.meets s l = r at K
 clear hp hS h hI
 go_enter Tryz.func29, Tryz.ntmps29
 go_wp2_with fail
 refine (K.out).mono ?_
 rintro e w' ⟨⟨i, rfl, hi⟩, rfl⟩
 go_wp2
 go_ret
 exact ⟨ret_bool (by first | rfl | exact hi), rfl⟩
def hv (e : Hd) : Value := .slice e.1 e.2.2.length e.2.1
theorem lists24_any (A B : Option Addr) (c d : Nat) (r : List (List Int)) (l : List Int) (w : World) :
  Calls Tryz.prog 27 #[.slice A r.length c, .slice B l.length d] w fun e w' => e = .returned (.func (.func 60) #[] #[.pointer (some ⟨w.heap.size + 1, 0, none⟩), .pointer (some ⟨w.heap.size, 0, none⟩)]) ∧
   Blk w' w.heap.size 32 #[.slice A r.length c] ∧ Blk w' (w.heap.size + 1) 31 #[.slice B l.length d] ∧ Below w.heap.size w w' ∧ w'.heap.size = w.heap.size + 2 := by
 go_enter Tryz.func27, Tryz.ntmps27
 go_wp2
 go_ret
 exact ⟨rfl, (Blk.new _ _ _).alloc _, Blk.new1 _ _ _ _, kalloc (kalloc (Below.refl _ _) _) _, by simp⟩
end Go.Proofs.YtkfdafeonhnloaaGreatDoor.Pv
namespace Go.Proofs.YtkfdafeonhnloaaGreatDoor.Pv
open Go.Proofs.YtkfdafeonhnloaaGreatDoor
open Go.RowKit Go.Shelf Go.Mine
attribute [local go_sem] Oper.semAt_some

instance : Inhabited Hd := ⟨(none, 0, [])⟩
def named (es : List Hd) (l : List Int) : List Hd := l.map fun i => es.getD i.toNat default
set_option maxHeartbeats 1000000 in
theorem lists33_iter (w0 w1 : World) (A B : Option Addr) (c d : Nat) (es : List Hd) (l : List Int) (hE : Sl hc 1 w0 A c es) (hL : Sl ic 1 w0 B d l) (hb : Below w0.heap.size w0 w1)
  (D : Nat) (hD : w0.heap.size ≤ D) (b0 : w1.cell? ⟨D, 0, none⟩ = some (.slice A es.length c)) (b1 : w1.cell? ⟨D + 1, 0, none⟩ = some (.slice B l.length d)) (hD2 : D + 2 ≤ w1.heap.size) (hl : ∀ i ∈ l, 0 ≤ i ∧ i < es.length) :
  Iter Tryz.prog 60 #[.pointer (some ⟨D + 1, 0, none⟩), .pointer (some ⟨D, 0, none⟩)] ((named es l).map fun e => #[hv e]) (fun b => b < w0.heap.size ∨ (D ≤ b ∧ b < D + 2)) w1 := by
 intro n lp J Jx W hw hR hJ hJx hY h0
 have hmax := hL.max
 have hle := hL.le
 have hmax2 := hE.max
 have hle2 := hE.le
 refine callsIn_of_wp Tryz.func60 rfl trivial ?_ rfl
 simp only [Tryz.ntmps60, List.size_toArray, List.length_cons, List.length_nil, Nat.reduceAdd, Nat.reduceSub, Array.replicate_succ, Array.replicate_zero, List.push_toArray, List.append_toArray, List.nil_append, List.cons_append]
 have d1 : W.cell? ⟨D + 1, 0, none⟩ = some (.slice B l.length d) := (World.cell?_of_block (a := ⟨D + 1, 0, none⟩) (hR (D + 1) (.inr (by omega))).2).trans b1
 gi_wp2
 gi_loopw [8] (fun i wr => ∃ (k : Nat) (O : Nat → Prop), i = .int .i64 k ∧ k ≤ l.length ∧ J k O wr ∧ (∀ b, O b → W.heap.size ≤ b ∧ b < wr.heap.size) ∧ W.heap.size ≤ wr.heap.size ∧
   (∀ b, (b < w0.heap.size ∨ (D ≤ b ∧ b < D + 2)) → wr.heap[b]? = W.heap[b]?)) (fun i _ => l.length - (nI i).toNat)
 case atStart => exact ⟨0, _, rfl, Nat.zero_le _, h0, fun _ h => h.elim, Nat.le_refl _, fun _ _ => rfl⟩
 case round =>
  obtain ⟨k, O, rfl, hk, hj, hO, hz, hkeep⟩ := hrel
  by_cases hlt : k < l.length
  ·have hHeap : ∀ b, (b < w0.heap.size ∨ (D ≤ b ∧ b < D + 2)) → wr.heap[b]? = w1.heap[b]? := fun b h => (hkeep b h).trans (hR b h).2
   have e0 : wr.cell? ⟨D, 0, none⟩ = some (.slice A es.length c) := (World.cell?_of_block (a := ⟨D, 0, none⟩) (hHeap D (.inr (by omega)))).trans b0
   obtain ⟨x, b, off, hx, _, rfl, hbw, hcx⟩ := hL.ic_at hlt
   have hxl := hl x (List.mem_of_getElem? hx)
   obtain ⟨m, rfl⟩ : ∃ m : Nat, x = (m : Int) := ⟨x.toNat, by omega⟩
   have hm : m < es.length := by omega
   obtain ⟨y, b', off', hy, _, rfl, hbw', hcy⟩ := hE.at_ hm
   have f1 : wr.cell? ⟨b, off + k, none⟩ = some (.int .i64 m) := (World.cell?_of_block (a := ⟨b, off + k, none⟩) ((hHeap b (.inl hbw)).trans (hb.block b hbw))).trans hcx
   have f2 : wr.cell? ⟨b', off' + m, none⟩ = some (.slice y.1 y.2.2.length y.2.1) := (World.cell?_of_block (a := ⟨b', off' + m, none⟩) ((hHeap b' (.inl hbw')).trans (hb.block b' hbw'))).trans (by have := hcy 0 _ rfl; simpa using this)
   have hn : (named es l)[k]? = some y := by
    unfold named
    rw [List.getElem?_map, hx]
    simp [hy]
   have hY' := hY _ _ O wr (by rw [List.getElem?_map, hn]; rfl) hj hO hz
   obtain ⟨fn, tmps, assign, body, hyy, hRR⟩ := hY'
   have hxn := hide hn
   have HY := hide @hY
   have HO := hide hO
   have Hk := hide hkeep
   have g1 : (m : Int) < (es.length : Int) := by omega
   clear b0 b1 hcx hcy d1 hY hn hx hy hR hkeep hHeap hO
   unfold hv at hyy
   gi_wp2
   refine hRR.mono ?_
   rintro e W' ⟨hK, (⟨rfl, hj'⟩ | ⟨rfl, hjx⟩)⟩
   ·gi_wp2
    go_roundw
    case rel =>
     refine ⟨k + 1, O, by go_num, by omega, hj', fun b hb => ?_, Nat.le_trans hz hK.size, fun b hb => ?_⟩
     ·have := HO.out b hb; have := hK.size; omega
     ·exact (hK.keep b (by have := hw; omega) (.inr hb)).trans (Hk.out b hb)
    case measure => simp [nI]; omega
   ·gi_wp2
    refine bodyPost_ret (results_none rfl _ _ _) rfl ?_
    exact ⟨⟨_, rfl⟩, O, fun b hb => by have := HO.out b hb; have := hK.size; omega, Nat.le_trans hz hK.size, .inr hjx⟩
  ·gi_wp2
   go_end0
   have : k = l.length := by omega
   subst this
   exact ⟨⟨_, rfl⟩, O, hO, hz, .inl (by rw [List.length_map]; simpa [named] using hj)⟩

def total (hs : List Hd) : Nat := (hs.map fun e => e.2.2.length).sum
def flat (hs : List Hd) : List Int := hs.flatMap fun e => e.2.2
theorem total_snoc (a : List Hd) (e : Hd) : total (a ++ [e]) = total a + e.2.2.length := by simp [total]
theorem total_take (hs : List Hd) (k : Nat) : total (hs.take k) ≤ total hs := by
 conv => rhs; rw [← List.take_append_drop k hs]
 unfold total
 rw [List.map_append, List.sum_append_nat]
 omega
theorem flat_snoc (a : List Hd) (e : Hd) : flat (a ++ [e]) = flat a ++ e.2.2 := by simp [flat]
set_option maxHeartbeats 4000000 in
theorem union23_any (w1 : World) (lb : Array Value) (hs : List Hd) (R : Nat → Prop) (hit : Iter Tryz.prog 60 lb (hs.map fun e => #[hv e]) R w1) (hR : ∀ b, R b → b < w1.heap.size)
  (hls : ∀ e ∈ hs, Sl ic 1 w1 e.1 e.2.1 e.2.2 ∧ ∀ y ∈ e.2.2, I64 y) (ht : total hs ≤ 1000000000) :
  Calls Tryz.prog 26 #[.func (.func 60) #[] lb] w1 fun e w' => ∃ v l, e = .returned v ∧ l.Pairwise (· < ·) ∧ (∀ k, k ∈ l ↔ ∃ e ∈ hs, k ∈ e.2.2) ∧ OwnL ic 1 3 w' w1.heap.size v l ∧ Below w1.heap.size w1 w' := by
 refine (callsIn_wide (n := 9)).1 (callsIn_of_wp_marks Tryz.func26 rfl trivial ?_ rfl)
 simp only [Tryz.ntmps26]
 simp only [List.size_toArray, List.length_cons, List.length_nil, Nat.reduceAdd, Nat.reduceSub, Array.replicate_succ, Array.replicate_zero, List.push_toArray, List.append_toArray, List.nil_append, List.cons_append]
 have hmm := @run_makeMap Tryz.prog
 gi_wp2
 clear hmm
 obtain ⟨w2, hw2⟩ : ∃ w2, ((w1.alloc (.map #[] 0)).alloc (.cells #[.map (some w1.heap.size)] 74)) = w2 := ⟨_, rfl⟩
 have b0 : MapI Tryz.prog 3 w2 w1.heap.size 0 (setM []) := by rw [← hw2, setM_nil]; exact (MapI.made _ _ _).alloc _
 have b1 : Bx (fun _ => False) w2 (w1.heap.size + 1) 74 (.map (some w1.heap.size)) := by rw [← hw2]; exact .of (by simp) (new_row1 _ _ _)
 have hb2 : Below w1.heap.size w1 w2 := by rw [← hw2]; exact (((Below.refl _ _).alloc (Nat.le_refl _) _).alloc (by simp) _)
 have hz2 : w2.heap.size = w1.heap.size + 2 := by rw [← hw2]; simp
 rw [hw2]
 clear hw2
 refine wpIn_range1 (gf := 60) (lb := lb) rfl (enters_of Tryz.func60 (by kernel_rfl) rfl) hv hit hb2.size (fun b hb => ⟨hR b hb, hb2.block b (hR b hb)⟩) 4
  (fun k O W => (∀ b, O b → w1.heap.size + 2 ≤ b) ∧ w1.heap.size + 2 ≤ W.heap.size ∧ Bx O W (w1.heap.size + 1) 74 (.map (some w1.heap.size)) ∧ MapI Tryz.prog 3 W w1.heap.size (total (hs.take k)) (setM (flat (hs.take k))) ∧ Below w1.heap.size w1 W)
  (fun _ _ _ => False) ?_ (fun _ _ _ _ _ h _ => h) ?_ ?assign ?body ?done ?stop
 ·rintro k O O' W W' ⟨h1, h2, h3, h4, h5⟩ st
  exact ⟨O_step st h1 h2, Nat.le_trans h2 st.size, h3.step st, h4.heap (st.keep _ h4.lt (fun h => by have := h1 _ h; omega)), st.below h5 (by omega) (fun b hb => by have := h1 b hb; omega)⟩
 ·exact ⟨fun b hb => hb.elim, by omega, b1, b0, hb2⟩
 case assign =>
  intro lp x W K hK
  gi_wp2
  exact hK
 case body =>
  rintro lp k x O W hx ⟨h1', h2', h3, h4, h5⟩ hO hz
  obtain ⟨s1, s2⟩ := hls x (List.mem_of_getElem? hx)
  have c3 := h3.cell
  have e1 := hide (take_of_get hx)
  have htk := total_take hs (k + 1)
  rw [e1.out, total_snoc] at htk
  have KA := hide (add29_any w1.heap.size _ _ x.1 x.2.1 x.2.2 W h4 (s1.bel h5) s2 (by omega))
  have H1 := hide h1'
  have H3 := hide h3
  have H5 := hide h5
  have hlt4 := h3.lt
  clear h1' hO hx hit hls h3 h5 s1 s2 h4
  unfold hv
  gi_wp2_with fail
  refine (CallsIn.inRound lp (callsIn_wide.2 KA.out)).mono ?_
  rintro en W2 ⟨rfl, hM2, hg2⟩
  have hk2 := hide ((Kept.refl (fun b => O b ∨ R b) W).grown hg2 (fun g hg => by
   obtain rfl := Option.some.inj hg
   rintro (h | h)
   ·have := H1.out _ h; omega
   ·have := hR _ h; omega))
  have hb5 := hide (Below.grown H5.out hg2 H5.out.size (fun g hg => by obtain rfl := Option.some.inj hg; exact Nat.le_refl _))
  have hx3 := hide (H3.out.grown hg2 (by intro e; have := Option.some.inj e; omega))
  have hs2 := hg2.size
  rw [← flat_snoc, ← total_snoc, ← e1.out] at hM2
  replace hM2 := hide hM2
  clear hg2 KA c3
  gi_wp2
  exact ⟨hk2.out, H1.out, by omega, hx3.out, hM2.out, hb5.out⟩
 case done =>
  rintro O W ⟨h1', h2', h3, h4, h5⟩ hO hD hOD hz
  rw [List.take_length] at h4
  have KS := hide (sorted32_any w1.heap.size _ _ W h4 ht)
  have c3 := h3.cell
  have hlt4 := h3.lt
  have H5 := hide h5
  clear hit hls h3 h4 h5 h1' hO
  gi_wp2_with fail
  refine (callsIn_wide.2 KS.out).mono ?_
  rintro e W2 ⟨v, l, rfl, q1, q2, q3, hb⟩
  rw [hz2] at hD
  have hD2 := hide ((hb.block _ (Array.getElem?_eq_some_iff.1 hD).1).trans hD)
  have hDlt := (Array.getElem?_eq_some_iff.1 hD).1
  have hbb := hide (H5.out.trans (hb.mono H5.out.size))
  have hq3 := hide q3
  have hq1 := hide q1
  have hq2 := hide q2
  have h5s := H5.out.size
  clear KS c3 hb q3 q1 q2 hD
  gi_wp2
  refine leaves_mark1 (v := v) hD2.out (by simp [results, Tryz.results26, go_sem]) ⟨v, l, rfl, hq1.out, fun k => ?_, ?_, below_put hbb.out _ (by omega)⟩
  ·rw [hq2.out, setM_some]; simp [flat]
  ·exact (hq3.out.keep (fun g hg => World.putObj_heap_other (by have := (hq3.out.blk hg).1; omega))).mono h5s
 case stop =>
  rintro c O W h
  exact h.elim
end Go.Proofs.YtkfdafeonhnloaaGreatDoor.Pv
