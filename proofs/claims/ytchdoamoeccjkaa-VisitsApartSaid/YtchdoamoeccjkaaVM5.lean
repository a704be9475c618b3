/-
  visits.Spans of right visits.
  visits, the reference's Spans of right visits.
-/
import Derived.Test.YtchdoamoeccjkaaVM4
import Derived.Test.YtchdoamoeccjkaaRShelf
namespace Go.Proofs.Ytchdoamoeccjkaa
open Go.RowKit Go.Shelf Go.Mine Go.Mine.V
open Go.Mine.S (Sp addL)
attribute [local go_sem] Oper.semAt_some store_funcS

set_option maxRecDepth 100000 in
set_option maxHeartbeats 8000000 in
theorem Spans20_good (A : Option Addr) (c : Nat) (l : List Vi) (who lang : Int) (w : World) (hS : Sl viC 4 w A c l) (hI : ∀ x ∈ l, ViS x) (hz : chk l = 0) (h1 : inB who 100000 = true) (h2 : inB lang 32 = true) :
    Calls Try.prog 20 #[.slice A l.length c, .int .i64 who, .int .i64 lang] w fun e w' => ∃ v, e = .returned (.tuple #[v, .int .i64 0]) ∧ OwnL spc 2 68 w' w.heap.size v (spans who lang l) ∧ Below w.heap.size w w' := by
  have hll := (chk_go hz).2
  have hiw : I64 who := by rw [inB_iff] at h1; unfold I64; omega
  have K18 := hide (fun w (hS : Sl viC 4 w A c l) => by have := Check_any A c l w hS hI; rw [hz] at this; exact this)
  have hxl : (stL who nobody (own who l)).length ≤ 4096 := by rw [stL_length]; exact Nat.le_trans (own_length _ _) hll
  have hsp := hide (spans_fold who lang l)
  have hmf : ∀ (fn : Fn) (first cap : Array Value) (w : World), (Instr.makeFunc fn first cap).run Try.prog w = .ok (.func fn first cap) w := fun _ _ _ _ => rfl
  clear hz
  refine (callsIn_wide (n := 9)).1 (callsIn_of_wp_marks Try.func20 rfl trivial ?_ rfl)
  simp only [Try.ntmps20]
  simp only [List.size_toArray, List.length_cons, List.length_nil, Nat.reduceAdd, Nat.reduceSub, Array.replicate_succ, Array.replicate_zero, List.push_toArray, List.append_toArray, List.nil_append, List.cons_append]
  gi_wp2_with fail
  have b5 := (Blk.new w #[.int .i64 lang] 3).alloc (.cells #[.slice none 0 0] 30)
  have b6 : Blk ((w.alloc (.cells #[.int .i64 lang] 3)).alloc (.cells #[.slice none 0 0] 30)) (w.heap.size + 1) 30 #[.slice none 0 0] := Blk.new' (by simp)
  have hb2 : Below w.heap.size w ((w.alloc (.cells #[.int .i64 lang] 3)).alloc (.cells #[.slice none 0 0] 30)) := kalloc (kalloc (Below.refl _ _) _) _
  have hz2 : ((w.alloc (.cells #[.int .i64 lang] 3)).alloc (.cells #[.slice none 0 0] 30)).heap.size = w.heap.size + 2 := by simp
  generalize (w.alloc (.cells #[.int .i64 lang] 3)).alloc (.cells #[.slice none 0 0] 30) = w2 at *
  refine (callsIn_wide.2 (K18.out w2 (hS.bel hb2))).mono ?_
  rintro e w3 ⟨rfl, hb3⟩
  have b5 := b5.bel hb3
  have b6 := b6.bel hb3
  have hb3' := kcall hb2 hb3
  have hz3 := hb3.size
  have d5 := b5.cell (v := .int .i64 lang) 0 rfl
  clear hb2 hb3
  gi_wp2_with (first | (gi_at_call 47; with_reducible refine (callsIn_wide.2 (within_is h1 _)).mono ?_; rintro e w' ⟨rfl, rfl⟩) | (gi_at_call 47; with_reducible refine (callsIn_wide.2 (within_is h2 _)).mono ?_; rintro e w' ⟨rfl, rfl⟩))
  have b5 := (b5.alloc (.cells #[.int .i64 (-1)] 3)).alloc (.cells #[.func (.func 53) #[] #[.pointer (some ⟨w.heap.size + 1, 0, none⟩), .pointer (some ⟨w3.heap.size, 0, none⟩)]] 78)
  have b6 := (b6.alloc (.cells #[.int .i64 (-1)] 3)).alloc (.cells #[.func (.func 53) #[] #[.pointer (some ⟨w.heap.size + 1, 0, none⟩), .pointer (some ⟨w3.heap.size, 0, none⟩)]] 78)
  have b8 := (Blk.new w3 #[.int .i64 (-1)] 3).alloc (.cells #[.func (.func 53) #[] #[.pointer (some ⟨w.heap.size + 1, 0, none⟩), .pointer (some ⟨w3.heap.size, 0, none⟩)]] 78)
  have b9 : Blk ((w3.alloc (.cells #[.int .i64 (-1)] 3)).alloc (.cells #[.func (.func 53) #[] #[.pointer (some ⟨w.heap.size + 1, 0, none⟩), .pointer (some ⟨w3.heap.size, 0, none⟩)]] 78)) (w3.heap.size + 1) 78 #[.func (.func 53) #[] #[.pointer (some ⟨w.heap.size + 1, 0, none⟩), .pointer (some ⟨w3.heap.size, 0, none⟩)]] := Blk.new' (by simp)
  have hb4 : Below w.heap.size w ((w3.alloc (.cells #[.int .i64 (-1)] 3)).alloc (.cells #[.func (.func 53) #[] #[.pointer (some ⟨w.heap.size + 1, 0, none⟩), .pointer (some ⟨w3.heap.size, 0, none⟩)]] 78)) := kalloc (kalloc hb3' _) _
  have hz4 : ((w3.alloc (.cells #[.int .i64 (-1)] 3)).alloc (.cells #[.func (.func 53) #[] #[.pointer (some ⟨w.heap.size + 1, 0, none⟩), .pointer (some ⟨w3.heap.size, 0, none⟩)]] 78)).heap.size = w3.heap.size + 2 := by simp
  generalize (w3.alloc (.cells #[.int .i64 (-1)] 3)).alloc (.cells #[.func (.func 53) #[] #[.pointer (some ⟨w.heap.size + 1, 0, none⟩), .pointer (some ⟨w3.heap.size, 0, none⟩)]] 78) = w4 at *
  refine (callsIn_wide.2 (states54_any w w4 A c l who hS hI hiw hll hb4)).mono ?_
  rintro e w1 ⟨lb, rfl, hb1, hz1, hit⟩
  have o5 := (b5.bel hb1).one
  have o6 := (b6.bel hb1).one
  have o8 := (b8.bel hb1).one
  have o9 := (b9.bel hb1).one
  have hB1 := kcall hb4 hb1
  clear b5 b6 b8 b9 hb4 hb3' d5 hb1 K18
  gi_wp2
  refine wpIn_rangeG (gf := 80) (lb := lb) rfl (enters_of Try.func80 (by kernel_rfl) rfl) encSt hit (Nat.le_refl _) (fun b hb => ⟨by rcases hb with h | h <;> omega, rfl⟩) (fun _ => rfl)
    (fun k O X => (∀ b, O b → w1.heap.size ≤ b) ∧ w1.heap.size ≤ X.heap.size ∧ Below w.heap.size w X ∧ One X w.heap.size (.int .i64 lang) ∧ One X (w3.heap.size + 1) (.func (.func 53) #[] #[.pointer (some ⟨w.heap.size + 1, 0, none⟩), .pointer (some ⟨w3.heap.size, 0, none⟩)]) ∧
      ∃ v, One X (w.heap.size + 1) v ∧ One X w3.heap.size (.int .i64 (((stL who nobody (own who l)).take k).foldl (stepS lang) ([], -1)).2) ∧ OwnO spc 2 68 O X w1.heap.size v (((stL who nobody (own who l)).take k).foldl (stepS lang) ([], -1)).1)
    (fun _ _ _ => False) ?_ (fun _ _ _ _ _ h _ => h) ?_ ?body ?done ?stop
  · rintro k O O' X X' ⟨h1, h2, h3, h4, h5, v, h6, h7, h8⟩ st
    exact ⟨O_step st h1 h2, Nat.le_trans h2 st.size, st.below h3 (by have := h3.size; omega) (fun b hb => by have := h1 b hb; omega), h4.step st (fun h => by have := h1 _ h; omega), h5.step st (fun h => by have := h1 _ h; omega), v, h6.step st (fun h => by have := h1 _ h; omega), h7.step st (fun h => by have := h1 _ h; omega), h8.step st⟩
  · exact ⟨fun b hb => hb.elim, Nat.le_refl _, hB1, o5, o9, .slice none 0 0, o6, by rw [List.take_zero]; exact o8, by rw [List.take_zero]; exact ⟨OwnL.nil _ _ _ _ _, by simp [Value.ownBlock]⟩⟩
  case body =>
    rintro lp k ⟨t, s⟩ O X hx ⟨h1', h2', h3, h4, h5, v, h6, h7, h8⟩ hO hz
    obtain ⟨o, g, hst, hsight⟩ := stW_parts s lang
    have hk := lt_of_get hx
    have hlen := foldS_length lang ((stL who nobody (own who l)).take k) ([], -1)
    have htk := List.length_take_le k (stL who nobody (own who l))
    have hnext := foldS_snoc lang ((stL who nobody (own who l)).take k) (t, s) ([], -1)
    rw [← take_of_get hx] at hnext
    generalize ((stL who nobody (own who l)).take k).foldl (stepS lang) ([], -1) = r at *
    obtain ⟨sp, fr⟩ := r
    simp only [stepS, hsight] at hnext h6 h7 h8
    simp only [List.length_nil] at hlen
    have HN := hide hnext
    have HO := hide hO
    have H1 := hide h1'
    simp only [encSt, hst]
    clear hit hx hsight hst hnext hO h1'
    gi_wp2
    refine ⟨(Kept.refl _ _).alloc _, fun W2 st hz2 => ?_⟩
    rw [World.size_alloc] at hz2
    have a3 : Below w.heap.size w W2 := st.below (kalloc h3 _) (by have := h3.size; simp; omega) (fun b hb => by have := H1.out b hb; omega)
    have a4 := (h4.alloc (.cells #[.bool o, .int .i64 g] 70)).step st (fun h => by have := H1.out _ h; omega)
    have a5 := (h5.alloc (.cells #[.bool o, .int .i64 g] 70)).step st (fun h => by have := H1.out _ h; omega)
    have a6 := (h6.alloc (.cells #[.bool o, .int .i64 g] 70)).step st (fun h => by have := H1.out _ h; omega)
    have a7 := (h7.alloc (.cells #[.bool o, .int .i64 g] 70)).step st (fun h => by have := H1.out _ h; omega)
    have a8 : OwnO spc 2 68 O W2 w1.heap.size v sp := OwnO.step ⟨h8.own.alloc _, h8.no⟩ st
    have nb : Blk W2 X.heap.size 70 #[.bool o, .int .i64 g] := ⟨by omega, (st.keep _ (by simp) (fun ho => by have := HO.out _ ho; omega)).trans (heap_new _ _)⟩
    have hvb : ∀ q, v.ownBlock = some q → w1.heap.size ≤ q ∧ q < X.heap.size := fun q hq => ⟨(h8.own.blk hq).1, (h8.own.blk hq).2.1⟩
    have hOz : ∀ b, O b → w1.heap.size ≤ b ∧ b < X.heap.size := fun b hb => HO.out b hb
    have KE := hide (end53_any w1.heap.size (w.heap.size + 1) w3.heap.size v sp fr t W2 a8.own (by omega) a6 a7 (by omega) (fun q hq => by have := hvb q hq; omega) (by omega))
    have e9 := a5.cell
    clear h3 h4 h5 h6 h7 h8 st
    gi_wp2_with fail
    refine (CallsIn.inRound lp (callsIn_wide.2 KE.out)).mono ?_
    rintro e W3 ⟨rfl, v', q1, q2, q3, q4, q5⟩
    have c3 : Below w.heap.size w W3 := kept_below q5 a3 (by omega) (fun b hb => ⟨by omega, by omega, fun e => by have := hvb _ e; omega⟩)
    have c4 := One.kept a4 q5 ⟨by omega, by omega, fun e => by have := hvb _ e; omega⟩
    have c5 := One.kept a5 q5 ⟨by omega, by omega, fun e => by have := hvb _ e; omega⟩
    have n3 : Blk W3 X.heap.size 70 #[.bool o, .int .i64 g] := ⟨Nat.lt_of_lt_of_le nb.lt q5.size, (q5.keep _ nb.lt ⟨by omega, by omega, fun e => by have := hvb _ e; omega⟩).trans nb.at_⟩
    have cK : Kept (fun b => O b ∨ b < w.heap.size ∨ w4.heap.size ≤ b ∧ b < w4.heap.size + 2) W2 W3 := q5.mono (fun b hb => by
      rcases hb with hb | hb | hb
      · have := hOz b hb; exact ⟨by omega, by omega, fun e => a8.no b e hb⟩
      · exact ⟨by omega, by omega, fun e => by have := hvb _ e; omega⟩
      · exact ⟨by omega, by omega, fun e => by have := hvb _ e; omega⟩)
    have hs3 := q5.size
    have c8 : OwnO spc 2 68 O W3 w1.heap.size v' (endS sp fr t) := ⟨q1, fun q hq hOq => by
      rcases q4 q hq with h | h
      · exact a8.no q h hOq
      · have := hOz q hOq; omega⟩
    have hvb' : ∀ q, v'.ownBlock = some q → w1.heap.size ≤ q := fun q hq => (q1.blk hq).1
    have f0 := n3.cell (v := .bool o) 0 rfl
    have f1 := n3.cell (v := .int .i64 g) 1 rfl
    have f4 := c4.cell
    have f3 := q3.cell
    have f3' := q3.thaw
    have HK := hide cK
    have HR := hide (And.intro c3 (And.intro c4 (And.intro c5 (And.intro q2 (And.intro q3 c8)))))
    clear KE q1 q2 q3 q4 q5 c3 c4 c5 c8 cK a3 a4 a5 a6 a7 a8 nb n3 hvb e9
    by_cases hon : o = true ∧ g = lang
    · obtain ⟨rfl, rfl⟩ := hon
      gi_wp2
      obtain ⟨c3, c4, c5, q2, q3, c8⟩ := HR.out
      refine ⟨HK.out.setCell _ (by rintro (h | h | h); (have := hOz _ h; dsimp only at this; omega); (dsimp only at h; omega); (dsimp only at h; omega)), H1.out, by simp [World.setCell]; omega, c3.setCell (by dsimp only; omega) _, c4.far _ (by omega), c5.far _ (by omega), v', q2.far _ (by omega), ?_, ?_⟩
      · rw [HN.out]
        have := q3.set (.int .i64 t)
        simpa [frm] using this
      · rw [HN.out]
        exact ⟨c8.own.keep (fun q hq => Below.heap_setCell _ _ _ _ (by dsimp only; have := hvb' q hq; omega)), c8.no⟩
    · have hfr : frm (o && decide (g = lang)) t = -1 := by
        unfold frm
        rw [if_neg]
        intro h
        rw [Bool.and_eq_true, decide_eq_true_eq] at h
        exact hon h
      rw [hfr] at HN
      have fin : Kept (fun b => O b ∨ b < w.heap.size ∨ w4.heap.size ≤ b ∧ b < w4.heap.size + 2) W2 W3 ∧ (∀ b, O b → w1.heap.size ≤ b) ∧ w1.heap.size ≤ W3.heap.size ∧ Below w.heap.size w W3 ∧ One W3 w.heap.size (.int .i64 lang) ∧ One W3 (w3.heap.size + 1) (.func (.func 53) #[] #[.pointer (some ⟨w.heap.size + 1, 0, none⟩), .pointer (some ⟨w3.heap.size, 0, none⟩)]) ∧
          ∃ v, One W3 (w.heap.size + 1) v ∧ One W3 w3.heap.size (.int .i64 (((stL who nobody (own who l)).take (k + 1)).foldl (stepS lang) ([], -1)).2) ∧ OwnO spc 2 68 O W3 w1.heap.size v (((stL who nobody (own who l)).take (k + 1)).foldl (stepS lang) ([], -1)).1 := by
        obtain ⟨c3, c4, c5, q2, q3, c8⟩ := HR.out
        exact ⟨HK.out, H1.out, by omega, c3, c4, c5, v', q2, by rw [HN.out]; exact q3, by rw [HN.out]; exact c8⟩
      have FIN := hide fin
      clear fin HR HK HN hfr
      cases o
      · gi_wp2
        exact FIN.out
      · have gl : (g == lang) = false := by
          have : g ≠ lang := fun e => hon ⟨rfl, e⟩
          simp [this]
        gi_wp2
        exact FIN.out
  case done =>
    rintro O X ⟨h1', h2', h3, h4, h5, v, h6, h7, h8⟩ hO hD hOD hz
    have hlen := foldS_length lang (stL who nobody (own who l)) ([], -1)
    rw [List.take_length] at h7 h8
    have hsp2 := hsp.out
    generalize (stL who nobody (own who l)).foldl (stepS lang) ([], -1) = r at *
    obtain ⟨sp, fr⟩ := r
    simp only [List.length_nil] at hlen hsp2 h7 h8
    have e9 := h5.cell
    have hvb : ∀ q, v.ownBlock = some q → w1.heap.size ≤ q ∧ q < X.heap.size := fun q hq => ⟨(h8.own.blk hq).1, (h8.own.blk hq).2.1⟩
    have KE := hide (end53_any w1.heap.size (w.heap.size + 1) w3.heap.size v sp fr 1099511627776 X h8.own (by omega) h6 h7 (by omega) (fun q hq => by have := hvb q hq; omega) (by omega))
    have HZ1 := hide hz1
    have HZ4 := hide hz4
    clear hit hz1 hz4
    gi_wp2_with fail
    refine (callsIn_wide.2 KE.out).mono ?_
    rintro e W3 ⟨rfl, v', q1, q2, q3, q4, q5⟩
    have hz1 := HZ1.out
    have hz4 := HZ4.out
    have c3 : Below w.heap.size w W3 := kept_below q5 h3 (by omega) (fun b hb => ⟨by omega, by omega, fun e => by have := hvb _ e; omega⟩)
    have hD3 : W3.heap[w1.heap.size]? = some (.deferred (some [])) := (q5.keep _ (hO _ hOD).2 ⟨by omega, by omega, fun e => h8.no _ e hOD⟩).trans hD
    have hno : ∀ q, v'.ownBlock = some q → q ≠ w1.heap.size := fun q hq e => by
      subst e
      rcases q4 _ hq with h | h
      · exact h8.no _ h hOD
      · have := (hO _ hOD).2; omega
    have hs3 := q5.size
    rw [← show spans who lang l = endS sp fr 1099511627776 from hsp2] at q1
    obtain ⟨R, hR⟩ : ∃ R, spans who lang l = R := ⟨_, rfl⟩
    rw [hR] at q1
    have hRR := hide hR
    clear hR
    have hvb' : ∀ q, v'.ownBlock = some q → w1.heap.size ≤ q := fun q hq => (q1.blk hq).1
    obtain ⟨A2, cp2, rfl, -⟩ := q1.sl
    have c5 := q2.cell
    have f5 := q2.thaw
    have HR := hide (And.intro c3 (And.intro hD3 (And.intro q1 q2)))
    clear KE q1 q2 q3 q4 q5 c3 hD3 h3 h4 h5 h6 h7 h8 e9 hsp hsp2 hD hz1 hz4
    gi_wp2
    have hz1 := HZ1.out
    have hz4 := HZ4.out
    obtain ⟨c3, hD3, q1, q2⟩ := HR.out
    have gg := (q2.set (.slice A2 R.length cp2)).put (D := w1.heap.size) (.deferred none) (by omega)
    have c6 := gg.cell
    refine leaves_mark1 (v := .tuple #[.slice A2 R.length cp2, .int .i64 0]) (set_other hD3 (by dsimp only; omega)) (by simp [results, Try.results20, go_sem, c6]) ⟨_, rfl, ?_, below_put (c3.setCell (by dsimp only; omega) _) _ (by omega)⟩
    rw [hRR.out]
    refine OwnL.mono (base := w1.heap.size) (OwnL.keep q1 (fun q hq => ?_)) (by omega)
    exact (World.putObj_heap_other (hno q hq)).trans (Below.heap_setCell _ _ _ _ (by dsimp only; have := hvb' q hq; omega))
  case stop =>
    rintro c O W h
    exact h.elim
end Go.Proofs.Ytchdoamoeccjkaa
namespace Go.Proofs.Ytchdoamoeccjkaa
open Go.RowKit Go.Mine Go.Mine.V
open Go.Mine.S (Sp addL)
attribute [local go_sem] Oper.semAt_some

theorem push_fin {w wr X w9 : World} {v v' : Value} {out out' : List Sp} (hB : Below w.heap.size w wr) (hX : Below wr.heap.size wr X) (hO : OwnL spc 2 68 wr w.heap.size v out) (hO9 : OwnL spc 2 68 w9 w.heap.size v' out') (hg : X.grownBy w9 v.ownBlock) :
    OwnL spc 2 68 w9 w.heap.size v' out' ∧ Below w.heap.size w w9 :=
  ⟨hO9, Below.grown (kcall hB hX) hg (by have := hB.size; have := hX.size; omega) (fun k hk => (hO.blk hk).1)⟩
def nextT : List Vi → Int
  | [] => 1099511627776
  | y :: _ => y.t
theorem refSp_cons (f : Int → Bool) (out : List Sp) (x : Vi) (l : List Vi) : refSp f out (x :: l) = refSp f (stepB (f x.t) out x.t (nextT l)) l := by
  cases l <;> rfl
theorem stepB_no {b : Bool} {out : List Sp} {a u : Int} (h : ¬ (b = true ∧ a < u)) : stepB b out a u = out := by unfold stepB; rw [if_neg h]
theorem stepB_nil {b : Bool} {a u : Int} (h : b = true ∧ a < u) : stepB b [] a u = [] ++ [(a, u)] := by unfold stepB; rw [if_pos h]; rfl
theorem stepB_snoc {b : Bool} {s : List Sp} {y : Sp} {a u : Int} (h : b = true ∧ a < u) : stepB b (s ++ [y]) a u = if y.2 = a then s ++ [(y.1, u)] else (s ++ [y]) ++ [(a, u)] := by
  unfold stepB; rw [if_pos h]; unfold addL; rw [List.getLast?_concat]; simp
theorem stepB_length (b : Bool) (s : List Sp) (a u : Int) : (stepB b s a u).length ≤ s.length + 1 := by
  unfold stepB
  split
  · unfold addL
    split
    · split
      · simp
      · simp
    · simp
  · omega
theorem nextT_sorted {x : Vi} {l : List Vi} (h : (x :: l).Pairwise fun x y => x.t ≤ y.t) (hE : x.t < 1099511627776) : x.t ≤ nextT l := by
  cases l with
  | nil => exact Int.le_of_lt hE
  | cons y l => exact (List.pairwise_cons.1 h).1 y (by simp)
set_option maxRecDepth 100000 in
set_option maxHeartbeats 8000000 in
theorem Spans21_good (A : Option Addr) (c : Nat) (l : List Vi) (who lang : Int) (w : World) (hS : Sl viC 4 w A c l) (hz : chk l = 0) (h1 : inB who 100000 = true) (h2 : inB lang 32 = true) :
    Calls Try.prog 21 #[.slice A l.length c, .int .i64 who, .int .i64 lang] w fun e w' => ∃ v, e = .returned (.tuple #[v, .int .i64 0]) ∧ OwnL spc 2 68 w' w.heap.size v (refSp (seeAt l who lang) [] l) ∧ Below w.heap.size w w' := by
  obtain ⟨hgo, hll⟩ := chk_go hz
  obtain ⟨_, hso⟩ := chkGo_sorted hgo
  have hfo := chkGo_formed hgo
  have K19 := hide (fun w (hS : Sl viC 4 w A c l) => by have := Check19_any A c l w hS; rw [hz] at this; exact this)
  have KS := hide (fun t w (hS : Sl viC 4 w A c l) => by have := sees50_any A c l who t w hS; rw [vEarly_ref hgo t who, seesR_toR] at this; exact this)
  have hsee := hide (fun t => (show seeAt l who lang t = sight lang (upTo nobody t l who) from rfl).trans (seesS_sight _ _))
  obtain ⟨i0, hi, hz0, hz1, hz2⟩ := info_parts Try_info68
  have HI := hide hi
  have hlc := hS.le
  have hc := hS.max
  clear hz hgo hi
  go_enter Try.func21, Try.ntmps21
  go_wp2_with fail
  refine (K19.out w hS).mono ?_
  rintro e w1 ⟨rfl, hb1⟩
  have HSw := hide hS
  clear K19 hS
  go_wp2_with (first | (go_at_call 49; with_reducible refine (within49_is h1 _).mono ?_; rintro e w' ⟨rfl, rfl⟩) | (go_at_call 49; with_reducible refine (within49_is h2 _).mono ?_; rintro e w' ⟨rfl, rfl⟩))
  have hO0 : OwnL spc 2 68 (w1.alloc (.cells #[] 68)) w.heap.size (.slice (some ⟨w1.heap.size, 0, none⟩) 0 0) ([] : List Sp) := OwnL.fresh w1 hb1.size
  have hB0 := kalloc hb1 (.cells #[] 68)
  generalize w1.alloc (.cells #[] 68) = w2 at *
  clear hb1
  go_loopw [9, 10] (fun v i wr => ∃ (k : Nat) (out : List Sp), k ≤ l.length ∧ i = .int .i64 k ∧ refSp (seeAt l who lang) [] l = refSp (seeAt l who lang) out (l.drop k) ∧ out.length ≤ k ∧ OwnL spc 2 68 wr w.heap.size v out ∧ Below w.heap.size w wr) (fun _ i _ => l.length - (nI i).toNat)
  case atStart => exact ⟨0, [], Nat.zero_le _, rfl, rfl, Nat.le_refl _, hO0, hB0⟩
  case round =>
    obtain ⟨k, out, hk, rfl, hq, hol, hO, hB⟩ := hrel
    have hS := HSw.out.bel hB
    clear hO0 hB0
    by_cases hlt : k < l.length
    · obtain ⟨x, bb, off, hx, hdr, rfl, hbw, c0, c1, c2, c3⟩ := Sl.vi_at hS hlt
      rw [hdr, refSp_cons] at hq
      have hxt : 0 ≤ x.t ∧ x.t < 1099511627776 := formed_t (hfo x (List.mem_of_getElem? hx))
      have hle : x.t ≤ nextT (l.drop (k + 1)) := nextT_sorted (by rw [← hdr]; exact hso.sublist (List.drop_sublist _ _)) hxt.2
      have hnx : (k + 1 < l.length ∧ ∃ y, y = nextT (l.drop (k + 1)) ∧ wr.cell? ⟨bb, off + (k + 1) * 4, none⟩ = some (.int .i64 y)) ∨ (¬ k + 1 < l.length ∧ nextT (l.drop (k + 1)) = 1099511627776) := by
        by_cases h : k + 1 < l.length
        · left
          obtain ⟨y, bb', off', _, hdr', hA, _, c0', _⟩ := Sl.vi_at hS h
          simp only [Option.some.injEq, Addr.mk.injEq, and_true] at hA
          obtain ⟨rfl, rfl⟩ := hA
          exact ⟨h, y.t, by rw [hdr']; rfl, c0'⟩
        · right
          exact ⟨h, by rw [List.drop_of_length_le (by omega)]; rfl⟩
      have KX := hide (KS.out x.t wr hS)
      rw [hsee.out x.t] at hq
      generalize seesS (upTo nobody x.t l who) = sv at *
      obtain ⟨n9, ok9⟩ := sv
      obtain ⟨xt, xw, xk, xg⟩ := x
      simp only at *
      generalize nextT (l.drop (k + 1)) = nt at *
      have HQ := hide hq
      have HO := hide hO
      have HB := hide hB
      obtain ⟨A1, p1, hv, -⟩ := hO.sl
      subst hv
      have gk : (k : Int) + 1 < 9223372036854775807 := by omega
      have gk1 : ((k : Int) + 1).toNat = k + 1 := by omega
      have gk2 : (0 : Int) ≤ (k : Int) + 1 := by omega
      clear hS hq hO hB hx hdr hfo hso KS hsee c1 c2 c3
      have SKIP : ∀ (h : ¬ ((ok9 && decide (n9 = lang)) = true ∧ xt < nt)), Hid (∃ (k' : Nat) (out' : List Sp), k' ≤ l.length ∧ Value.int .i64 (k + 1) = .int .i64 k' ∧ refSp (seeAt l who lang) [] l = refSp (seeAt l who lang) out' (l.drop k') ∧ out'.length ≤ k' ∧ OwnL spc 2 68 wr w.heap.size (.slice A1 out.length p1) out' ∧ Below w.heap.size w wr) := by
        intro h
        refine hide ⟨k + 1, out, by omega, by go_num, ?_, by omega, HO.out, HB.out⟩
        rw [HQ.out, stepB_no h]
      cases ok9
      · have FIN := SKIP (by simp)
        rcases hnx with ⟨hn, y, rfl, cy⟩ | ⟨hn, rfl⟩
        · have gl : decide (((k : Int) + 1) < l.length) = true := by simp; omega
          go_wp2_with (refine KX.out.mono ?_; rintro e w' ⟨rfl, rfl⟩)
          go_roundw
          case rel => exact FIN.out
          case measure => simp [nI]; omega
        · have gl : decide (((k : Int) + 1) < l.length) = false := by simp; omega
          go_wp2_with (refine KX.out.mono ?_; rintro e w' ⟨rfl, rfl⟩)
          go_roundw
          case rel => exact FIN.out
          case measure => simp [nI]; omega
      · by_cases hln : n9 = lang
        · have gn : (n9 != lang) = false := by simp [hln]
          by_cases hxn : xt = nt
          · have FIN := SKIP (by rintro ⟨_, h⟩; omega)
            have gx : (nt == xt) = true := by simp [hxn]
            rcases hnx with ⟨hn, y, rfl, cy⟩ | ⟨hn, rfl⟩
            · have gl : decide (((k : Int) + 1) < l.length) = true := by simp; omega
              clear hxn hln
              go_wp2_with (refine KX.out.mono ?_; rintro e w' ⟨rfl, rfl⟩)
              go_roundw
              case rel => exact FIN.out
              case measure => simp [nI]; omega
            · omega
          · have gx : (nt == xt) = false := by
              have : nt ≠ xt := fun e => hxn e.symm
              simp [this]
            have hyes : (true && decide (n9 = lang)) = true ∧ xt < nt := ⟨by simp [hln], by omega⟩
            rcases List.eq_nil_or_concat out with rfl | ⟨o', y, rfl⟩
            · have E1 := hide (HQ.out.trans (by rw [stepB_nil hyes]))
              clear SKIP hyes hxn hln HQ
              simp only [List.length_nil] at *
              rcases hnx with ⟨hn, nt, rfl, cy⟩ | ⟨hn, rfl⟩
              · have gl : decide (((k : Int) + 1) < l.length) = true := by simp; omega
                go_wp2_with (refine KX.out.mono ?_; rintro e w' ⟨rfl, rfl⟩)
                (refine wp_still_all (by kernel_rfl) (by kernel_rfl) ?_; (repeat ((with_reducible refine wpStill_step (fun K hK => ?_)); go_simp; (try go_bits); (with_reducible refine hK _ ?_); clear hK K)); (with_reducible refine wpStill_nil ?_))
                go_wp2_with (at_builtin; refine wpList_push rfl (.tmp 96) (.tmp 104) 30 rfl Try.underlying30 HI.out hz0 hz1 hz2 rfl (by decide) rfl (by first | exact HO.out.alloc _ | exact (HO.out.alloc _).drew | exact HO.out.drew.alloc _) (y := ((_, _) : Sp)) (b := wr.heap.size) rfl (by first | exact heap_new _ _ | exact (Blk.new wr _ _).drew.at_ | (simp; done)) rfl rfl (by intro x hx; simp [spc] at hx; rcases hx with rfl | rfl <;> rfl) ?_ ?_ ?_ ?_)
                · first | (simp [maxLen]; done) | (simp [maxLen]; omega)
                · first | (simp; done) | (simp; omega)
                · have := HB.out.size; simp; omega
                · intro v' w9 hO9 hg9 hat9
                  have FIN := hide (push_fin HB.out (by first | exact kalloc (Below.refl _ _) _ | exact (kalloc (Below.refl _ _) _).drew | exact kalloc (Below.refl _ _).drew _) HO.out hO9 hg9)
                  clear hO9 hg9 hat9
                  go_wp2
                  go_roundw
                  case rel => exact ⟨k + 1, _, by omega, by go_num, E1.out, by first | (simp; done) | (simp; omega), FIN.out.1, FIN.out.2⟩
                  case measure => simp [nI]; omega
              · have gl : decide (((k : Int) + 1) < l.length) = false := by simp; omega
                go_wp2_with (refine KX.out.mono ?_; rintro e w' ⟨rfl, rfl⟩)
                (refine wp_still_all (by kernel_rfl) (by kernel_rfl) ?_; (repeat ((with_reducible refine wpStill_step (fun K hK => ?_)); go_simp; (try go_bits); (with_reducible refine hK _ ?_); clear hK K)); (with_reducible refine wpStill_nil ?_))
                go_wp2_with (at_builtin; refine wpList_push rfl (.tmp 96) (.tmp 104) 30 rfl Try.underlying30 HI.out hz0 hz1 hz2 rfl (by decide) rfl (by first | exact HO.out.alloc _ | exact (HO.out.alloc _).drew | exact HO.out.drew.alloc _) (y := ((_, _) : Sp)) (b := wr.heap.size) rfl (by first | exact heap_new _ _ | exact (Blk.new wr _ _).drew.at_ | (simp; done)) rfl rfl (by intro x hx; simp [spc] at hx; rcases hx with rfl | rfl <;> rfl) ?_ ?_ ?_ ?_)
                · first | (simp [maxLen]; done) | (simp [maxLen]; omega)
                · first | (simp; done) | (simp; omega)
                · have := HB.out.size; simp; omega
                · intro v' w9 hO9 hg9 hat9
                  have FIN := hide (push_fin HB.out (by first | exact kalloc (Below.refl _ _) _ | exact (kalloc (Below.refl _ _) _).drew | exact kalloc (Below.refl _ _).drew _) HO.out hO9 hg9)
                  clear hO9 hg9 hat9
                  go_wp2
                  go_roundw
                  case rel => exact ⟨k + 1, _, by omega, by go_num, E1.out, by first | (simp; done) | (simp; omega), FIN.out.1, FIN.out.2⟩
                  case measure => simp [nI]; omega
            · rw [List.concat_eq_append] at *
              have hlo : (o' ++ [y]).length = o'.length + 1 := by simp
              rw [hlo] at HO
              obtain ⟨g, cap, hv, hg, hgw, hcap, hf0, hf, hcell, hset⟩ := HO.out.last
              simp only [Value.slice.injEq] at hv
              obtain ⟨rfl, -, rfl⟩ := hv
              have k1 := hcell 1 (.int .i64 y.2) rfl
              have gi : (o'.length : Int) < o'.length + 1 := by omega
              have hob : bb ≠ g := fun e => by
                obtain ⟨b0, q0, hA0, hb0, _⟩ := HSw.out.cells (by rintro rfl; simp at hlt)
                simp only [Option.some.injEq, Addr.mk.injEq, and_true] at hA0
                omega
              by_cases hne : y.2 = xt
              · have gn : (y.2 == xt) = true := by simp [hne]
                have E1 := hide (HQ.out.trans (by rw [(stepB_snoc hyes).trans (if_pos hne)]))
                have hgw' : ¬ bb = g := hob
                have fk := hf (o'.length * 2 + 1)
                have FIN := hide (fun (w9 : World) (e1 : w9.heap[g]? = (wr.setCell ⟨g, o'.length * 2 + 1, none⟩ (.int .i64 nt)).heap[g]?) => hset 1 (.int .i64 nt) (y.1, nt) w9 e1 (by decide) rfl)
                clear SKIP hyes hxn hln HQ hset hcell hne
                rcases hnx with ⟨hn, nt, rfl, cy⟩ | ⟨hn, rfl⟩
                · have gl : decide (((k : Int) + 1) < l.length) = true := by simp; omega
                  go_wp2_with (refine KX.out.mono ?_; rintro e w' ⟨rfl, rfl⟩)
                  (refine wp_still_all (by kernel_rfl) (by kernel_rfl) ?_; (repeat ((with_reducible refine wpStill_step (fun K hK => ?_)); go_simp; (try go_bits); (with_reducible refine hK _ ?_); clear hK K)); (with_reducible refine wpStill_nil ?_))
                  go_wp2
                  go_roundw
                  case rel => exact ⟨k + 1, _, by omega, by go_num, E1.out, by simp; omega, FIN.out _ rfl, (HB.out.setCell (by dsimp only; omega) _).drew⟩
                  case measure => simp [nI]; omega
                · have gl : decide (((k : Int) + 1) < l.length) = false := by simp; omega
                  go_wp2_with (refine KX.out.mono ?_; rintro e w' ⟨rfl, rfl⟩)
                  (refine wp_still_all (by kernel_rfl) (by kernel_rfl) ?_; (repeat ((with_reducible refine wpStill_step (fun K hK => ?_)); go_simp; (try go_bits); (with_reducible refine hK _ ?_); clear hK K)); (with_reducible refine wpStill_nil ?_))
                  go_wp2
                  go_roundw
                  case rel => exact ⟨k + 1, _, by omega, by go_num, E1.out, by simp; omega, FIN.out _ rfl, (HB.out.setCell (by dsimp only; omega) _).drew⟩
                  case measure => simp [nI]; omega
              · have gn : (y.2 == xt) = false := by simp [hne]
                have E1 := hide (HQ.out.trans (by rw [(stepB_snoc hyes).trans (if_neg hne), List.append_assoc]))
                clear SKIP hyes hxn hln HQ hset hcell hne
                rcases hnx with ⟨hn, nt, rfl, cy⟩ | ⟨hn, rfl⟩
                · have gl : decide (((k : Int) + 1) < l.length) = true := by simp; omega
                  go_wp2_with (refine KX.out.mono ?_; rintro e w' ⟨rfl, rfl⟩)
                  (refine wp_still_all (by kernel_rfl) (by kernel_rfl) ?_; (repeat ((with_reducible refine wpStill_step (fun K hK => ?_)); go_simp; (try go_bits); (with_reducible refine hK _ ?_); clear hK K)); (with_reducible refine wpStill_nil ?_))
                  go_wp2_with (at_builtin; refine wpList_push rfl (.tmp 96) (.tmp 104) 30 rfl Try.underlying30 HI.out hz0 hz1 hz2 rfl (by decide) rfl (by first | exact HO.out.alloc _ | exact (HO.out.alloc _).drew | exact HO.out.drew.alloc _) (y := ((_, _) : Sp)) (b := wr.heap.size) rfl (by first | exact heap_new _ _ | exact (Blk.new wr _ _).drew.at_ | (simp; done)) rfl rfl (by intro x hx; simp [spc] at hx; rcases hx with rfl | rfl <;> rfl) ?_ ?_ ?_ ?_)
                  · first | (simp [maxLen]; done) | (simp [maxLen]; omega)
                  · first | (simp; done) | (simp; omega)
                  · have := HB.out.size; simp; omega
                  · intro v' w9 hO9 hg9 hat9
                    have FIN := hide (push_fin HB.out (by first | exact kalloc (Below.refl _ _) _ | exact (kalloc (Below.refl _ _) _).drew | exact kalloc (Below.refl _ _).drew _) HO.out hO9 hg9)
                    clear hO9 hg9 hat9
                    go_wp2
                    go_roundw
                    case rel => exact ⟨k + 1, _, by omega, by go_num, E1.out, by first | (simp; done) | (simp; omega), FIN.out.1, FIN.out.2⟩
                    case measure => simp [nI]; omega
                · have gl : decide (((k : Int) + 1) < l.length) = false := by simp; omega
                  go_wp2_with (refine KX.out.mono ?_; rintro e w' ⟨rfl, rfl⟩)
                  (refine wp_still_all (by kernel_rfl) (by kernel_rfl) ?_; (repeat ((with_reducible refine wpStill_step (fun K hK => ?_)); go_simp; (try go_bits); (with_reducible refine hK _ ?_); clear hK K)); (with_reducible refine wpStill_nil ?_))
                  go_wp2_with (at_builtin; refine wpList_push rfl (.tmp 96) (.tmp 104) 30 rfl Try.underlying30 HI.out hz0 hz1 hz2 rfl (by decide) rfl (by first | exact HO.out.alloc _ | exact (HO.out.alloc _).drew | exact HO.out.drew.alloc _) (y := ((_, _) : Sp)) (b := wr.heap.size) rfl (by first | exact heap_new _ _ | exact (Blk.new wr _ _).drew.at_ | (simp; done)) rfl rfl (by intro x hx; simp [spc] at hx; rcases hx with rfl | rfl <;> rfl) ?_ ?_ ?_ ?_)
                  · first | (simp [maxLen]; done) | (simp [maxLen]; omega)
                  · first | (simp; done) | (simp; omega)
                  · have := HB.out.size; simp; omega
                  · intro v' w9 hO9 hg9 hat9
                    have FIN := hide (push_fin HB.out (by first | exact kalloc (Below.refl _ _) _ | exact (kalloc (Below.refl _ _) _).drew | exact kalloc (Below.refl _ _).drew _) HO.out hO9 hg9)
                    clear hO9 hg9 hat9
                    go_wp2
                    go_roundw
                    case rel => exact ⟨k + 1, _, by omega, by go_num, E1.out, by first | (simp; done) | (simp; omega), FIN.out.1, FIN.out.2⟩
                    case measure => simp [nI]; omega
        · have FIN := SKIP (by simp [hln])
          have gn : (n9 != lang) = true := by simp [hln]
          clear hln
          rcases hnx with ⟨hn, y, rfl, cy⟩ | ⟨hn, rfl⟩
          · have gl : decide (((k : Int) + 1) < l.length) = true := by simp; omega
            go_wp2_with (refine KX.out.mono ?_; rintro e w' ⟨rfl, rfl⟩)
            go_roundw
            case rel => exact FIN.out
            case measure => simp [nI]; omega
          · have gl : decide (((k : Int) + 1) < l.length) = false := by simp; omega
            go_wp2_with (refine KX.out.mono ?_; rintro e w' ⟨rfl, rfl⟩)
            go_roundw
            case rel => exact FIN.out
            case measure => simp [nI]; omega
    · rw [List.drop_of_length_le (by omega), show refSp (seeAt l who lang) out [] = out from rfl] at hq
      have HQ := hide hq
      have HO := hide hO
      have HB := hide hB
      obtain ⟨A1, p1, hv, -⟩ := hO.sl
      subst hv
      clear hq hO hB hS
      go_wp2
      exact bodyPost_ret (v := .tuple #[.slice A1 out.length p1, .int .i64 0]) (by simp [results, Try.results21, go_sem]) rfl ⟨_, rfl, by rw [HQ.out]; exact HO.out, HB.out⟩
end Go.Proofs.Ytchdoamoeccjkaa
