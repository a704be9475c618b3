/-
  queue: work, and what stands before the range of Run.
  queue.Run, where jobs are right.
  queue.Run.
-/
import Derived.Test.YtnngemgfochodaaGreatTM11
import Derived.Test.YtnngemgfochodaaGreatTM7
import Derived.Test.YtnngemgfochodaaGreatTM9
import Derived.Test.YtnngemgfochodaaGreatCells
import Derived.Test.YtnngemgfochodaaGreatOwnAt
namespace Go.Proofs.YtnngemgfochodaaGreat.J
open Go.Proofs.YtnngemgfochodaaGreat
open Go.RowKit Go.Mine Go.Mine.Q
theorem work42 (A : Option Addr) (c n : Nat) (w : World) :
    Calls Tryz.prog 57 #[.slice A n c] w fun e w' => e = .returned (.func (.func 70) #[] #[.pointer (some ⟨w.heap.size, 0, none⟩)]) ∧ w' = w.alloc (.cells #[.slice A n c] 69) := by
  have hmf : ∀ (fn : Fn) (first cap : Array Value) (w : World), (Instr.makeFunc fn first cap).run Tryz.prog w = .ok (.func fn first cap) w := fun _ _ _ _ => rfl
  go_enter Tryz.func57, Tryz.ntmps57
  go_wp2
  go_ret
  exact ⟨rfl, rfl⟩
theorem blk_heap {w w' : World} {b : Nat} {ty : TypeId} {cs : Array Value} (h : Blk w b ty cs) (e : w'.heap[b]? = w.heap[b]?) : Blk w' b ty cs :=
  ⟨(Array.getElem?_eq_some_iff.1 (e.trans h.at_)).1, e.trans h.at_⟩
theorem roundIn_any {n m l' : Nat} {P : Program} {l : Nat} {f : FuncId} {tmps : Array Value} {assign body : Code} {w : World} {R : Ending → World → Prop} (h : RoundIn Fence.wide n P l f tmps assign body w R) : RoundIn (Fence.wide.inRound l') m P l f tmps assign body w R :=
  ⟨trivial, fun c cs _ => h.2 c cs (room_wide _)⟩
/-- what jobs are for, by number -/
def byNo (F : Jb → Value) (l : List Jb) : Int → Option Value := fun n => (jobOf l n).map F
theorem byNo_nil (F : Jb → Value) : byNo F [] = fun _ => none := rfl
theorem byNo_snoc {F : Jb → Value} {l : List Jb} {x : Jb} (h : ∀ y ∈ l, y.no < x.no) : Go.Mine.upd (byNo F l) x.no (F x) = byNo F (l ++ [x]) := by
  funext n
  unfold byNo Go.Mine.upd
  rw [jobOf_snoc h]
  split <;> rfl
theorem byNo_mem {F : Jb → Value} {l : List Jb} (hp : l.Pairwise fun x y => x.no < y.no) {x : Jb} (h : x ∈ l) : byNo F l x.no = some (F x) := by
  unfold byNo; rw [jobOf_mem hp h]; rfl
/-- what stands while the dues are gathered -/
structure St0 (w : World) (mb : Nat) (wr : World) : Prop where
  r0 : Blk wr w.heap.size 72 #[.slice none 0 0]
  r1 : Blk wr (w.heap.size + 1) 4 #[.bool false]
  r2 : Blk wr (w.heap.size + 2) 25 #[.int .i64 0]
  mx : Blk wr (mb + 1) 99 #[.map (some mb)]
  bel : Below w.heap.size w wr
  mb_ : w.heap.size + 3 ≤ mb
theorem St0.alloc {w wr : World} {mb : Nat} (h : St0 w mb wr) (o : Obj) : St0 w mb (wr.alloc o) := ⟨h.r0.alloc o, h.r1.alloc o, h.r2.alloc o, h.mx.alloc o, kalloc h.bel o, h.mb_⟩
theorem St0.grown {w wr wr' : World} {mb : Nat} (h : St0 w mb wr) (g : wr.grownBy wr' (some mb)) : St0 w mb wr' := by
  have := h.mb_
  exact ⟨h.r0.grown g (by simp; omega), h.r1.grown g (by simp; omega), h.r2.grown g (by simp; omega), h.mx.grown g (by simp), Below.grown h.bel g h.bel.size (fun k hk => by have := Option.some.inj hk; omega), h.mb_⟩
end Go.Proofs.YtnngemgfochodaaGreat.J
namespace Go.Proofs.YtnngemgfochodaaGreat.J
open Go.Proofs.YtnngemgfochodaaGreat
open Go.RowKit Go.Mine Go.Mine.Q
attribute [local go_sem] Oper.semAt_some
def dueV (x : Jb) : Value := .int .i64 x.due
set_option maxRecDepth 100000 in
set_option maxHeartbeats 8000000 in
theorem run22_good (A : Option Addr) (c : Nat) (l : List Jb) (w : World) (hS : Sl jbC 5 w A c l) (hz : chk l = 0) : Calls Tryz.prog 31 #[.slice A l.length c] w (RunE l w) := by
  obtain ⟨hr, h64, hok⟩ := right_of hz
  have hlc := hS.le
  have hc := hS.max
  have HS := hide hS
  have HR := hide hr
  have HP := hide (okL_iff.1 hok).2
  have HZ := hide hz
  have K27 := hide (fun w (h : Sl jbC 5 w A c l) => by have := check27 A c l w h; rw [hz] at this; exact this)
  have hmm := @run_makeMap Tryz.prog
  have HB : Hid (runB l = runOk l) := hide (by unfold runB; rw [hz]; rfl)
  clear hS hr hok hz
  refine (callsIn_wide (n := 9)).1 (callsIn_of_wp_marks Tryz.func31 rfl trivial ?_ rfl)
  simp only [Tryz.ntmps31]
  simp only [List.size_toArray, List.length_cons, List.length_nil, Nat.reduceAdd, Nat.reduceSub, Array.replicate_succ, Array.replicate_zero, List.push_toArray, List.append_toArray, List.nil_append, List.cons_append]
  gi_wp2_with fail
  obtain ⟨w2, hw2⟩ : ∃ w2, ((w.alloc (.cells #[.slice none 0 0] 72)).alloc (.cells #[.bool false] 4)).alloc (.cells #[.int .i64 0] 25) = w2 := ⟨_, rfl⟩
  have a0 : Blk w2 w.heap.size 72 #[.slice none 0 0] := by rw [← hw2]; exact ((Blk.new w _ _).alloc _).alloc _
  have a1 : Blk w2 (w.heap.size + 1) 4 #[.bool false] := by rw [← hw2]; exact (Blk.new1 w _ _ _).alloc _
  have a2 : Blk w2 (w.heap.size + 2) 25 #[.int .i64 0] := by rw [← hw2]; exact Blk.new2 w _ _ _ _
  have hb2 : Below w.heap.size w w2 := by rw [← hw2]; exact kalloc (kalloc (kalloc (Below.refl _ _) _) _) _
  rw [hw2]
  clear hw2
  refine (callsIn_wide.2 (K27.out w2 (HS.out.bel hb2))).mono ?_
  rintro e w3 ⟨rfl, hb3⟩
  have hs3 : w.heap.size + 3 ≤ w3.heap.size := by have := (a2.bel hb3).lt; omega
  obtain ⟨w4, hw4⟩ : ∃ w4, (w3.alloc (.map #[] 0)).alloc (.cells #[.map (some w3.heap.size)] 99) = w4 := ⟨_, rfl⟩
  have HM4 : Hid (MapI Tryz.prog 3 w4 w3.heap.size 0 (byNo dueV (l.take 0))) := hide (by rw [← hw4, List.take_zero]; exact (MapI.made w3 Tryz.prog 3).alloc _)
  have HT4 : Hid (St0 w w3.heap.size w4) := hide (by
    rw [← hw4]
    exact ⟨((a0.bel hb3).alloc _).alloc _, ((a1.bel hb3).alloc _).alloc _, ((a2.bel hb3).alloc _).alloc _, Blk.new1 w3 _ _ _, kalloc (kalloc (kcall hb2 hb3) _) _, hs3⟩)
  clear a0 a1 a2 hb2 hb3 K27
  gi_wp2_with fail
  clear hw4 hmm
  gi_loopw [19] (fun v19 wr => ∃ (k : Nat), k ≤ l.length ∧ v19 = .int .i64 k ∧ Hid (MapI Tryz.prog 3 wr w3.heap.size k (byNo dueV (l.take k))) ∧ Hid (St0 w w3.heap.size wr)) (fun i _ => l.length - (nI i).toNat)
  case atStart => exact ⟨0, Nat.zero_le _, rfl, HM4, HT4⟩
  case round =>
    clear HM4 HT4
    obtain ⟨k, hk, rfl, HM, HT⟩ := hrel
    by_cases hlt : k < l.length
    · obtain ⟨x, b, off, hx, _, rfl, hbw, d0, d1, d2, d3, d4⟩ := Sl.jb_at (HS.out.bel HT.out.bel) hlt
      have HX := hide (take_of_get hx)
      have HL := hide (take_lt HP.out hx)
      have hxr := rightJ_iff.1 (HR.out x (List.mem_of_getElem? hx))
      have mx := HT.out.mx.cell (v := .map (some w3.heap.size)) 0 rfl
      have mxl := HT.out.mx.lt
      clear hx
      gi_wp2_with fail
      obtain ⟨w5, e5, M5, g5⟩ := (HM.out.alloc (.cells (jbC x).toArray 71)).put Tryz.underlying3 Tryz.underlying99 (by unfold maxLen; omega) (show I64 x.no by unfold I64; omega) (dueV x)
      simp only [jbC, dueV] at e5 M5 g5
      rw [e5]
      have M6 : MapI Tryz.prog 3 w5 w3.heap.size (k + 1) (byNo dueV (l.take (k + 1))) := by rw [HX.out, ← byNo_snoc HL.out]; exact M5
      have T5 := (HT.out.alloc (.cells (jbC x).toArray 71)).grown g5
      have HM6 := hide M6
      have HT5 := hide T5
      clear M5 M6 T5 g5 e5 HM HT d0 d1 d2 d3 d4 mx mxl
      gi_wp2
      go_roundw
      case rel => exact ⟨k + 1, by omega, by go_num, HM6, HT5⟩
      case measure => simp [nI]; omega
    · obtain rfl : k = l.length := by omega
      have hM := HM.out
      rw [List.take_length] at hM
      obtain ⟨wl, hwl⟩ : ∃ x, x = wr := ⟨_, rfl⟩
      subst hwl
      gi_wp2_with fail
      refine (callsIn_wide.2 (work42 A c l.length wl)).mono ?_
      rintro e w4' ⟨rfl, hw5⟩
      have hB5 : Below w.heap.size w w4' := by rw [hw5]; exact kalloc HT.out.bel _
      have hbx : Blk w4' wl.heap.size 69 #[.slice A l.length c] := by rw [hw5]; exact Blk.new _ _ _
      have HM5 : Hid (MapI Tryz.prog 3 w4' w3.heap.size l.length (byNo dueV l)) := hide (by rw [hw5]; exact hM.alloc _)
      have HT5 : Hid (St0 w w3.heap.size w4') := hide (by rw [hw5]; exact HT.out.alloc _)
      have hwl := HT.out.bel.size
      have hit := work65_iter w w4' A c l HS.out HZ.out hB5 wl.heap.size hwl (hbx.cell 0 rfl) hbx.lt
      have hbl := hbx.lt
      have hmxl := HT5.out.mx.lt
      have hmxl0 := HT.out.mx.lt
      have hpl := pieces_len h64
      obtain ⟨i0, hi, hz0, hz1, hz2⟩ := info_parts Try_info104
      have HI := hide hi
      clear hM hw5 HM HT hbx hi
      gi_wp2
      have hno : ∀ k : Nat, (soFar l k).length ≤ 128 := fun k => soFar_len l k h64
      refine wpIn_rangeG (gf := 70) (lb := #[.pointer (some ⟨wl.heap.size, 0, none⟩)]) rfl (enters_of Tryz.func70 (by kernel_rfl) rfl) (fun p : Pc => #[sxV (sxOf p)]) hit (Nat.le_refl _) (fun b hb => ⟨by rcases hb with h | h <;> omega, rfl⟩) (fun _ => rfl)
        (fun k O X => (∀ b, O b → w4'.heap.size ≤ b) ∧ w4'.heap.size ≤ X.heap.size ∧ Below w.heap.size w X ∧ (∀ x, x < w4'.heap.size → x ≠ w.heap.size → X.heap[x]? = w4'.heap[x]?) ∧ (∀ p ∈ (pieces l).take k, p.u ≤ p.j.due) ∧
          ∃ v, One X w.heap.size v ∧ OwnO sxC 3 104 O X w4'.heap.size v (soFar l k))
        (fun c O X => c = .ret ∧ (∀ b, O b → w4'.heap.size ≤ b) ∧ w4'.heap.size ≤ X.heap.size ∧ runB l = false ∧ One X w.heap.size (.slice none 0 0) ∧ One X (w.heap.size + 1) (.bool false) ∧ One X (w.heap.size + 2) (.int .i64 0) ∧ Below w.heap.size w X)
        ?_ ?_ ?_ ?body ?done ?stop
      · rintro k O O' X X' ⟨h1, h2, h3, h4, h5, v, h6, h7⟩ st
        exact ⟨O_step st h1 h2, Nat.le_trans h2 st.size, st.below h3 h3.size (fun b hb => by have := h1 b hb; omega), fun x hx hn => (st.keep x (by omega) (fun ho => by have := h1 x ho; omega)).trans (h4 x hx hn), h5, v, h6.step st (fun h => by have := h1 _ h; omega), h7.step st⟩
      · rintro k O O' X X' ⟨h0, h1, h2, h3, h4, h5, h6, h7⟩ st
        exact ⟨h0, O_step st h1 h2, Nat.le_trans h2 st.size, h3, h4.step st (fun ho => by have := h1 _ ho; omega), h5.step st (fun ho => by have := h1 _ ho; omega), h6.step st (fun ho => by have := h1 _ ho; omega), st.below h7 h7.size (fun b hb => by have := h1 b hb; omega)⟩
      · exact ⟨fun b hb => hb.elim, Nat.le_refl _, hB5, fun _ _ _ => rfl, by simp, .slice none 0 0, HT5.out.r0.one, by rw [soFar_zero]; exact ⟨OwnL.nil _ _ _ _ _, by simp [Value.ownBlock]⟩⟩
      case body =>
        rintro lp k p O X hx ⟨h1, h2, h3, h4, h5, v, h6, h7⟩ hO hzX
        have hpm := List.mem_of_getElem? hx
        have hpj := pieces_mem hpm
        have hxr := rightJ_iff.1 (HR.out p.j hpj)
        have hkl := lt_of_get hx
        have H1 := hide h1
        have H4 := hide h4
        have H5 := hide h5
        have HO := hide hO
        have HPM := hide hpm
        have HNX := hide (soFar_next hx)
        have HTK := hide (take_of_get hx)
        have hsl := hno k
        have HNo := hide hno
        clear h1 h4 h5 hO hx hit hno hpm
        simp only [sxV, sxC, sxOf]
        gi_wp2
        refine ⟨(Kept.refl _ _).alloc _, fun W2 st hzW => ?_⟩
        rw [World.size_alloc] at hzW
        have hb5 : Below w.heap.size w W2 := st.below (kalloc h3 _) (by have := h3.size; simp; omega) (fun b hb => by have := H1.out b hb; omega)
        have nb : Blk W2 X.heap.size 104 #[.int .i64 p.j.no, .int .i64 p.f, .int .i64 p.u] := blk_heap (Blk.new X _ _) (st.keep _ (by simp) (fun ho => by have := HO.out _ ho; omega))
        have hk4 : ∀ x, x < w4'.heap.size → x ≠ w.heap.size → W2.heap[x]? = w4'.heap[x]? := fun x hx hn => (st.keep x (by simp; omega) (fun ho => by have := H1.out x ho; omega)).trans ((Below.heap_alloc _ _ _ (by omega)).trans (H4.out x hx hn))
        have h6 := (h6.alloc (.cells #[.int .i64 p.j.no, .int .i64 p.f, .int .i64 p.u] 104)).step st (fun h => by have := H1.out _ h; omega)
        have h7 : OwnO sxC 3 104 O W2 w4'.heap.size v (soFar l k) := OwnO.step ⟨h7.own.alloc _, h7.no⟩ st
        have hM := HM5.out.heap (hk4 _ (by have := HM5.out.lt; omega) (by omega))
        have hlk := hM.look Tryz.underlying3 Tryz.underlying99 (Tryz.zeroValue3 _) (show I64 p.j.no by unfold I64; omega)
        rw [byNo_mem HP.out hpj] at hlk
        simp only [dueV, Option.getD_some] at hlk
        have mx := (blk_heap HT5.out.mx (hk4 _ (by omega) (by omega))).cell (v := .map (some w3.heap.size)) 0 rfl
        have mxl : w3.heap.size + 1 < W2.heap.size := by omega
        have r1 := (blk_heap HT5.out.r1 (hk4 _ (by omega) (by omega))).one
        have r2 := (blk_heap HT5.out.r2 (hk4 _ (by omega) (by omega))).one
        have n0 := nb.cell (v := .int .i64 p.j.no) 0 rfl
        have n1 := nb.cell (v := .int .i64 p.f) 1 rfl
        have n2 := nb.cell (v := .int .i64 p.u) 2 rfl
        have nl := nb.lt
        have y0 := h6.cell
        have y0t := h6.thaw
        have y0l := h6.lt
        have hb5z := hb5.size
        have hOx : ∀ b, O b → w4'.heap.size ≤ b ∧ b < X.heap.size := fun b hb => HO.out b hb
        have HB5' := hide hb5
        have HK4 := hide hk4
        have H7 := hide h7
        have H6 := hide h6
        clear hb5 hk4 h3 h6 h7 hM st
        rcases Bool.eq_false_or_eq_true (decide (p.j.due < p.u)) with g1 | g1
        · have hno := runOk_no HPM.out (of_decide_eq_true g1)
          have HRB := hide (show runB l = false by rw [HB.out]; exact hno)
          have z1 := r1.cell
          have z1t := r1.thaw
          have z2 := r2.cell
          have z2t := r2.thaw
          obtain ⟨wf, hwf⟩ : ∃ wf, ((W2.setCell ⟨w.heap.size, 0, none⟩ (.slice none 0 0)).setCell ⟨w.heap.size + 1, 0, none⟩ (.bool false)).setCell ⟨w.heap.size + 2, 0, none⟩ (.int .i64 0) = wf := ⟨_, rfl⟩
          have q0 : One wf w.heap.size (.slice none 0 0) := by rw [← hwf]; exact ((H6.out.set _).far _ (by omega)).far _ (by omega)
          have q1 : One wf (w.heap.size + 1) (.bool false) := by rw [← hwf]; exact ((r1.far _ (by omega)).set _).far _ (by omega)
          have q2 : One wf (w.heap.size + 2) (.int .i64 0) := by rw [← hwf]; exact ((r2.far _ (by omega)).far _ (by omega)).set _
          have q3 : Below w.heap.size w wf := by rw [← hwf]; exact ((HB5'.out.setCell (by dsimp only; omega) _).setCell (by dsimp only; omega) _).setCell (by dsimp only; omega) _
          have q4 : Kept (fun b => O b ∨ b < w.heap.size ∨ b = wl.heap.size) W2 wf := by
            rw [← hwf]
            refine (((Kept.refl _ _).setCell _ ?_).setCell _ ?_).setCell _ ?_
            all_goals
              rintro (h | h | h)
              · have := hOx _ h; dsimp only at this; omega
              · dsimp only at h; omega
              · dsimp only at h; omega
          have q5 : w4'.heap.size ≤ wf.heap.size := by rw [← hwf]; simp [World.setCell]; omega
          have HQ := hide (And.intro q0 (And.intro q1 (And.intro q2 (And.intro q3 (And.intro q4 q5)))))
          have HWF := hide hwf
          clear q0 q1 q2 q3 q4 q5 hwf hno
          gi_wp2_with fail
          rw [HWF.out]
          obtain ⟨q0, q1, q2, q3, q4, q5⟩ := HQ.out
          exact ⟨q4, rfl, H1.out, q5, HRB.out, q0, q1, q2, q3⟩
        · have HD5 := hide (show ∀ q ∈ (pieces l).take (k + 1), q.u ≤ q.j.due from by
            rw [HTK.out]; intro q hq
            rcases List.mem_append.1 hq with hq | hq
            · exact H5.out q hq
            · simp at hq; subst hq; have := of_decide_eq_false g1; omega)
          obtain ⟨A2, c2, rfl, hS2⟩ := H7.out.own.sl
          have hS2l := hS2.le
          have hS2m := hS2.max
          have hvb : ∀ q, (Value.slice A2 (soFar l k).length c2).ownBlock = some q → w4'.heap.size ≤ q ∧ q < W2.heap.size := fun q hq => ⟨(H7.out.own.blk hq).1, (H7.out.own.blk hq).2.1⟩
          have HVB := hide hvb
          have hKn : ∀ q, (Value.slice A2 (soFar l k).length c2).ownBlock = some q → ¬ (O q ∨ q < w.heap.size ∨ q = wl.heap.size) := fun q hq h => by
            have := hvb q hq
            rcases h with h | h | h
            · exact H7.out.no q hq h
            · omega
            · omega
          have HKN := hide hKn
          clear hvb hKn hS2 r1 r2
          -- where it is appended
          have FIN : Hid (soFar l (k + 1) = soFar l k ++ [sxOf p] → ∀ (w5 : World), w5 = (W2.alloc (.cells #[.int .i64 p.j.no, .int .i64 p.f, .int .i64 p.u] 104)).drew → ∀ (v6 : Value) (w6 wf : World), OwnL sxC 3 104 w6 w4'.heap.size v6 (soFar l k ++ [sxOf p]) → w5.grownBy w6 (Value.slice A2 (soFar l k).length c2).ownBlock → (∀ g, v6.ownBlock = some g → (Value.slice A2 (soFar l k).length c2).ownBlock = some g ∨ X.heap.size ≤ g) →
              w6.setCell ⟨w.heap.size, 0, none⟩ v6 = wf → (One w6 w.heap.size (.slice A2 (soFar l k).length c2)) ∧ (Kept (fun b => O b ∨ b < w.heap.size ∨ b = wl.heap.size) W2 wf ∧ (∀ b, O b → w4'.heap.size ≤ b) ∧ w4'.heap.size ≤ wf.heap.size ∧ Below w.heap.size w wf ∧ (∀ x, x < w4'.heap.size → x ≠ w.heap.size → wf.heap[x]? = w4'.heap[x]?) ∧ (∀ p ∈ (pieces l).take (k + 1), p.u ≤ p.j.due) ∧ ∃ v, One wf w.heap.size v ∧ OwnO sxC 3 104 O wf w4'.heap.size v (soFar l (k + 1)))) := hide (by
            rintro e w5 rfl v6 w6 wf hO6 hg6 hat rfl
            have hk6 : Kept (fun b => O b ∨ b < w.heap.size ∨ b = wl.heap.size) W2 w6 := ((Kept.refl _ _).alloc _).drew.grown hg6 (fun q hq => HKN.out q hq)
            have hz6 := hk6.size
            have ho6 : One w6 w.heap.size (.slice A2 (soFar l k).length c2) := (H6.out.alloc _).drew.heap (hg6.block _ (by simp; omega) (fun e => by have := HVB.out _ e.symm; omega))
            have hb6 : Below w.heap.size w w6 := Below.grown (kalloc HB5'.out _).drew hg6 (by simp; omega) (fun q hq => by have := HVB.out q hq; omega)
            refine ⟨ho6, hk6.setCell _ ?_, H1.out, by simp [World.setCell]; omega, hb6.setCell (by dsimp only; omega) _, fun x hx hn => (Below.heap_setCell _ _ _ _ hn).trans ((hg6.block x (by simp; omega) (fun e => by have := HVB.out _ e.symm; omega)).trans ((Below.heap_alloc _ _ _ (by omega)).trans (HK4.out x hx hn))), HD5.out, v6, ho6.set _, ?_, ?_⟩
            · rintro (h | h | h)
              · have := hOx _ h; dsimp only at this; omega
              · dsimp only at h; omega
              · dsimp only at h; omega
            · rw [e]
              exact hO6.keep (fun q hq => Below.heap_setCell _ _ _ _ (by dsimp only; rcases hat q hq with h | h; (have := HVB.out q h; omega); omega))
            · intro q hq hOq
              rcases hat q hq with h | h
              · exact H7.out.no q h hOq
              · have := hOx q hOq; omega)
          have HSN := hide (show (soFar l k).length ≤ 128 from hsl)
          have HN1 := HNX
          generalize soFar l k = s at *
          rcases list_cases s with hs | ⟨r, y, hs⟩
          · have HE := hide (show soFar l (k + 1) = s ++ [sxOf p] by rw [HNX.out, hs]; rfl)
            have g0 : decide (0 < s.length) = false := by rw [hs]; rfl
            clear hs hsl HNX
            have hsl := HSN.out
            (gi_wp2_with fail; refine wpIn_region_still_lit (ro := some lp) (by kernel_rfl) (by kernel_rfl) ?_; (repeat (first | ((with_reducible refine wpStill_step (fun K hK => ?_)); go_simp; (try go_bits); (with_reducible refine hK _ ?_); clear hK K) | ((with_reducible refine wpStill_step (fun K hK => ?_)); go_simp; rw [if_neg (by simp [undef])]; (with_reducible refine hK _ ?_); clear hK K))); (with_reducible refine wpStill_nil ?_))
            gi_wp2_with (gi_at_builtin; refine wpListIn_append rfl (.tmp 72) (.tmp 74) 72 rfl rfl rfl (run_extend (f := sxC) (base := w4'.heap.size) (l1 := s) (l2 := [sxOf p]) Tryz.underlying72 HI.out hz0 hz1 hz2 rfl (by decide) (H7.out.own.alloc _).drew (Sl.one (Blk.new' hzW).drew rfl rfl (by decide) (by decide)) ?_ ?_ ?_ ?_) ?_)
            · intro a ha u hu
              exact sx_one a u hu
            · simp only [List.length_singleton]; unfold maxLen; omega
            · simp only [List.length_singleton]; omega
            · simp; omega
            · intro v6 w6 hO6 hg6 hat
              obtain ⟨A6, c6, rfl, -⟩ := hO6.sl
              rw [show (s ++ [sxOf p]).length = s.length + 1 by simp] at hO6 hat ⊢
              obtain ⟨wf, hwf⟩ : ∃ wf, w6.setCell ⟨w.heap.size, 0, none⟩ (.slice A6 (s.length + 1) c6) = wf := ⟨_, rfl⟩
              obtain ⟨ho6, hfin⟩ := FIN.out HE.out _ rfl _ w6 wf hO6 hg6 (fun g hg => by rcases hat g hg with h | h; exact .inl h; exact .inr (by omega)) hwf
              have x0 := ho6.cell
              have x0t := ho6.thaw
              have x0l := ho6.lt
              have HF := hide hfin
              have HWF := hide hwf
              clear hO6 hg6 hat hfin hwf FIN HE ho6
              gi_wp2_with fail
              rw [HWF.out]
              exact HF.out
          · have hsl1 : s.length = r.length + 1 := by rw [hs]; simp
            obtain ⟨m, hm⟩ : ∃ m, r.length = m := ⟨_, rfl⟩
            have h7 := H7.out.own
            have g0 : decide (0 < s.length) = true := decide_eq_true (by omega)
            have hw : IntKind.i64.wrap ((s.length : Int) - 1) = (m : Int) := by rw [IntKind.wrap_i64]; omega
            have hrs : (m : Int) < (s.length : Int) := by omega
            obtain ⟨g, cap, hv, hg1, hg2, hcap, hcapm, hfz, hcc, hput⟩ := own_at h7 (k := m) (y := y) (by rw [hs, ← hm]; simp)
            injection hv with hv1 _ hv2
            subst hv1 hv2
            have p0 := hcc 0 _ (show (sxC y)[0]? = some (.int .i64 y.no) from rfl)
            have p2 := hcc 2 _ (show (sxC y)[2]? = some (.int .i64 y.u) from rfl)
            rw [Nat.add_zero] at p0
            have hfz2 := hfz (m * 3 + 2)
            have hgO := HKN.out g rfl
            have HPUT := hide (hput 2 (.int .i64 p.u) ⟨y.no, y.f, p.u⟩)
            have HS1 := hide hs
            have HM1 := hide hm
            have HS2 := hide hsl1
            clear hcc hput hfz h7 hs hm hsl1
            by_cases hj : y.no = p.j.no ∧ y.u = p.f
            · have HE := hide (show soFar l (k + 1) = s.set m ⟨y.no, y.f, p.u⟩ by rw [HNX.out, HS1.out, addS_join r y (sxOf p) hj, ← HM1.out]; simp [sxOf])
              have e1 : (y.no == p.j.no) = true := by simpa using hj.1
              have e2 : (y.u == p.f) = true := by simpa using hj.2
              obtain ⟨wf, hwf⟩ : ∃ wf, (W2.setCell ⟨g, m * 3 + 2, none⟩ (.int .i64 p.u)) = wf := ⟨_, rfl⟩
              have hfz3 : W2.drew.frozen? ⟨g, m * 3 + 2, none⟩ = false := hfz2
              have HFIN : Hid (Kept (fun b => O b ∨ b < w.heap.size ∨ b = wl.heap.size) W2 wf.drew ∧ (∀ b, O b → w4'.heap.size ≤ b) ∧ w4'.heap.size ≤ wf.drew.heap.size ∧ Below w.heap.size w wf.drew ∧ (∀ x, x < w4'.heap.size → x ≠ w.heap.size → wf.drew.heap[x]? = w4'.heap[x]?) ∧ (∀ p ∈ (pieces l).take (k + 1), p.u ≤ p.j.due) ∧ ∃ v, One wf.drew w.heap.size v ∧ OwnO sxC 3 104 O wf.drew w4'.heap.size v (soFar l (k + 1))) := hide (by
                rw [← hwf, HE.out]
                refine ⟨((Kept.refl _ _).setCell _ (by dsimp only; exact hgO)).drew, H1.out, by simp [World.setCell]; omega, (HB5'.out.setCell (by dsimp only; omega) _).drew, fun x hx hn => (Below.heap_setCell _ _ _ _ (by dsimp only; omega)).trans (HK4.out x hx hn), HD5.out, _, (H6.out.heap (Below.heap_setCell _ _ _ _ (by dsimp only; omega))).drew, ⟨(HPUT.out _ rfl (by decide) rfl).drew, H7.out.no⟩⟩)
              have HWF := hide hwf
              clear HNX HS1 hj FIN HPUT hwf
              (gi_wp2_with fail; refine wpIn_region_still_lit (ro := some lp) (by kernel_rfl) (by kernel_rfl) ?_; (repeat (first | ((with_reducible refine wpStill_step (fun K hK => ?_)); go_simp; (try go_bits); (with_reducible refine hK _ ?_); clear hK K) | ((with_reducible refine wpStill_step (fun K hK => ?_)); go_simp; rw [if_neg (by simp [undef])]; (with_reducible refine hK _ ?_); clear hK K))); (with_reducible refine wpStill_nil ?_))
              gi_wp2_with fail
              first | exact HFIN.out | (rw [HWF.out]; exact HFIN.out)
            · have HE := hide (show soFar l (k + 1) = s ++ [sxOf p] by rw [HNX.out, HS1.out]; exact addS_more r y (sxOf p) hj)
              have he : (y.no == p.j.no) = false ∨ ((y.no == p.j.no) = true ∧ (y.u == p.f) = false) := by
                by_cases h1 : y.no = p.j.no
                · right; exact ⟨by simpa using h1, by simp; exact fun h => hj ⟨h1, h⟩⟩
                · left; simpa using h1
              have HX2 := hide hg2
              clear HNX HS1 hj HPUT
              rcases he with e1 | ⟨e1, e2⟩
              all_goals
                (gi_wp2_with fail; refine wpIn_region_still_lit (ro := some lp) (by kernel_rfl) (by kernel_rfl) ?_; (repeat (first | ((with_reducible refine wpStill_step (fun K hK => ?_)); go_simp; (try go_bits); (with_reducible refine hK _ ?_); clear hK K) | ((with_reducible refine wpStill_step (fun K hK => ?_)); go_simp; rw [if_neg (by simp [undef])]; (with_reducible refine hK _ ?_); clear hK K))); (with_reducible refine wpStill_nil ?_))
                gi_wp2_with (gi_at_builtin; refine wpListIn_append rfl (.tmp 72) (.tmp 74) 72 rfl rfl rfl (run_extend (f := sxC) (base := w4'.heap.size) (l1 := s) (l2 := [sxOf p]) Tryz.underlying72 HI.out hz0 hz1 hz2 rfl (by decide) (H7.out.own.alloc _).drew (Sl.one (Blk.new' hzW).drew rfl rfl (by decide) (by decide)) ?_ ?_ ?_ ?_) ?_)
                · intro a ha u hu
                  exact sx_one a u hu
                · simp only [List.length_singleton]; unfold maxLen; omega
                · simp only [List.length_singleton]; omega
                · simp; omega
                · intro v6 w6 hO6 hg6 hat
                  obtain ⟨A6, c6, rfl, -⟩ := hO6.sl
                  rw [show (s ++ [sxOf p]).length = s.length + 1 by simp] at hO6 hat ⊢
                  obtain ⟨wf, hwf⟩ : ∃ wf, w6.setCell ⟨w.heap.size, 0, none⟩ (.slice A6 (s.length + 1) c6) = wf := ⟨_, rfl⟩
                  obtain ⟨ho6, hfin⟩ := FIN.out HE.out _ rfl _ w6 wf hO6 hg6 (fun g hg => by rcases hat g hg with h | h; exact .inl h; exact .inr (by omega)) hwf
                  have x0 := ho6.cell
                  have x0t := ho6.thaw
                  have x0l := ho6.lt
                  have HF := hide hfin
                  have HWF := hide hwf
                  clear hO6 hg6 hat hfin hwf FIN HE ho6
                  gi_wp2_with fail
                  rw [HWF.out]
                  exact HF.out
      case done =>
        rintro O X ⟨h1, h2, h3, h4, h5, v, h6, h7⟩ hO hD hOD hzX
        rw [List.take_length] at h5
        rw [soFar_all] at h7
        have hrb : runB l = true := by rw [HB.out]; exact runOk_yes h5
        have HRS := hide (runS_yes hrb)
        have HRB := hide hrb
        obtain ⟨A2, c2, rfl, hS2⟩ := h7.own.sl
        have hvb : ∀ q, (Value.slice A2 (plan l).length c2).ownBlock = some q → w4'.heap.size ≤ q ∧ q < X.heap.size := fun q hq => ⟨(h7.own.blk hq).1, (h7.own.blk hq).2.1⟩
        have r1 := (blk_heap HT5.out.r1 (h4 _ (by omega) (by omega))).one
        have r2 := (blk_heap HT5.out.r2 (h4 _ (by omega) (by omega))).one
        have y0 := h6.cell
        have y0t := h6.thaw
        have y0l := h6.lt
        have z1 := r1.cell
        have z1t := r1.thaw
        have z2 := r2.cell
        have z2t := r2.thaw
        have h3z := h3.size
        generalize plan l = s at *
        obtain ⟨wf, hwf⟩ : ∃ wf, ((X.setCell ⟨w.heap.size, 0, none⟩ (.slice A2 s.length c2)).setCell ⟨w.heap.size + 1, 0, none⟩ (.bool true)).setCell ⟨w.heap.size + 2, 0, none⟩ (.int .i64 0) = wf := ⟨_, rfl⟩
        have q0 : One wf w.heap.size (.slice A2 s.length c2) := by rw [← hwf]; exact ((h6.set _).far _ (by omega)).far _ (by omega)
        have q1 : One wf (w.heap.size + 1) (.bool true) := by rw [← hwf]; exact ((r1.far _ (by omega)).set _).far _ (by omega)
        have q2 : One wf (w.heap.size + 2) (.int .i64 0) := by rw [← hwf]; exact ((r2.far _ (by omega)).far _ (by omega)).set _
        have q3 : Below w.heap.size w wf := by rw [← hwf]; exact ((h3.setCell (by dsimp only; omega) _).setCell (by dsimp only; omega) _).setCell (by dsimp only; omega) _
        have hkp : ∀ x, w4'.heap.size ≤ x → wf.heap[x]? = X.heap[x]? := fun x hx => by
          rw [← hwf]
          exact (Below.heap_setCell _ _ _ _ (by dsimp only; omega)).trans ((Below.heap_setCell _ _ _ _ (by dsimp only; omega)).trans (Below.heap_setCell _ _ _ _ (by dsimp only; omega)))
        have q4 : OwnO sxC 3 104 O wf w4'.heap.size (.slice A2 s.length c2) s := ⟨h7.own.keep (fun q hq => hkp q (hvb q hq).1), h7.no⟩
        have q5 : wf.heap[w4'.heap.size]? = some (.deferred (some [])) := (hkp _ (Nat.le_refl _)).trans hD
        have HQ := hide (And.intro q0 (And.intro q1 (And.intro q2 (And.intro q3 (And.intro q4 q5)))))
        have HWF := hide hwf
        clear q0 q1 q2 q3 q4 q5 hwf hkp h3 h4 h5 h6 h7 hD r1 r2 hrb hit hS2 HB
        gi_wp2
        rw [HWF.out]
        obtain ⟨q0, q1, q2, q3, q4, q5⟩ := HQ.out
        have c0 := (q0.put (D := w4'.heap.size) (.deferred none) (by omega)).cell
        have c1 := (q1.put (D := w4'.heap.size) (.deferred none) (by omega)).cell
        have c2' := (q2.put (D := w4'.heap.size) (.deferred none) (by omega)).cell
        obtain ⟨A3, c3, e3, hS3⟩ := (q4.put (D := w4'.heap.size) (.deferred none) hOD).own.sl
        cases e3
        refine leaves_mark1 (v := .tuple #[.slice A2 s.length c2, .bool true, .int .i64 0]) q5 (by simp [results, Tryz.results31, go_sem, c0, c1, c2']) ⟨A2, c2, by rw [HRS.out, HRB.out, HZ.out], by rw [HRS.out]; exact hS3, below_put q3 _ (by omega)⟩
      case stop =>
        rintro c' O X ⟨rfl, h1, h2, hrb, q0, q1, q2, q3⟩ hO hD hOD hzX
        have HRS := hide (runS_no hrb)
        have HRB := hide hrb
        have q3z := q3.size
        clear hit
        gi_wp2
        have c0 := (q0.put (D := w4'.heap.size) (.deferred none) (by omega)).cell
        have c1 := (q1.put (D := w4'.heap.size) (.deferred none) (by omega)).cell
        have c2' := (q2.put (D := w4'.heap.size) (.deferred none) (by omega)).cell
        refine leaves_mark1 (v := .tuple #[.slice none 0 0, .bool false, .int .i64 0]) hD (by simp [results, Tryz.results31, go_sem, c0, c1, c2']) ⟨none, 0, by rw [HRS.out, HRB.out, HZ.out]; rfl, by rw [HRS.out]; exact Sl.nil (by decide), below_put q3 _ (by omega)⟩
end Go.Proofs.YtnngemgfochodaaGreat.J
namespace Go.Proofs.YtnngemgfochodaaGreat.J
open Go.Proofs.YtnngemgfochodaaGreat
open Go.RowKit Go.Mine Go.Mine.Q
set_option maxHeartbeats 4000000 in
theorem run22 (A : Option Addr) (c : Nat) (l : List Jb) (w : World) (hS : Sl jbC 5 w A c l) : Calls Tryz.prog 31 #[.slice A l.length c] w (RunE l w) := by
  by_cases hz : chk l = 0
  · exact run22_good A c l w hS hz
  · have hlc := hS.le
    have hc := hS.max
    have HS := hide hS
    have K27 := hide (fun w (h : Sl jbC 5 w A c l) => check27 A c l w h)
    have hrb : runB l = false := by unfold runB; rw [decide_eq_false hz]; rfl
    have HRS := hide (runS_no hrb)
    have HRB := hide hrb
    have gz : (chk l != 0) = true := by simpa using hz
    have HZ := hide (show chk l = chk l from rfl)
    generalize hq : chk l = z at K27 gz
    have HQ := hide hq
    clear hS hz hrb HZ hq
    go_enter Tryz.func31, Tryz.ntmps31
    go_wp2_with fail
    obtain ⟨w2, hw2⟩ : ∃ w2, ((w.alloc (.cells #[.slice none 0 0] 72)).alloc (.cells #[.bool false] 4)).alloc (.cells #[.int .i64 0] 25) = w2 := ⟨_, rfl⟩
    have a0 : Blk w2 w.heap.size 72 #[.slice none 0 0] := by rw [← hw2]; exact ((Blk.new w _ _).alloc _).alloc _
    have a1 : Blk w2 (w.heap.size + 1) 4 #[.bool false] := by rw [← hw2]; exact (Blk.new1 w _ _ _).alloc _
    have a2 : Blk w2 (w.heap.size + 2) 25 #[.int .i64 0] := by rw [← hw2]; exact Blk.new2 w _ _ _ _
    have hb2 : Below w.heap.size w w2 := by rw [← hw2]; exact kalloc (kalloc (kalloc (Below.refl _ _) _) _) _
    rw [hw2]
    clear hw2
    refine (K27.out w2 (HS.out.bel hb2)).mono ?_
    rintro e w1 ⟨rfl, hb⟩
    have r0 := (a0.bel hb).one
    have r1 := (a1.bel hb).one
    have r2 := (a2.bel hb).one
    have z0 := r0.cell
    have z1 := r1.cell
    have z2 := r2.cell
    have z0t := r0.thaw
    have z1t := r1.thaw
    have z2t := r2.thaw
    have z2l := r2.lt
    have hbb := kcall hb2 hb
    have hs := hbb.size
    obtain ⟨wf, hwf⟩ : ∃ wf, ((w1.setCell ⟨w.heap.size, 0, none⟩ (.slice none 0 0)).setCell ⟨w.heap.size + 1, 0, none⟩ (.bool false)).setCell ⟨w.heap.size + 2, 0, none⟩ (.int .i64 z) = wf := ⟨_, rfl⟩
    have q0 : One wf w.heap.size (.slice none 0 0) := by rw [← hwf]; exact ((r0.set _).far _ (by omega)).far _ (by omega)
    have q1 : One wf (w.heap.size + 1) (.bool false) := by rw [← hwf]; exact ((r1.far _ (by omega)).set _).far _ (by omega)
    have q2 : One wf (w.heap.size + 2) (.int .i64 z) := by rw [← hwf]; exact ((r2.far _ (by omega)).far _ (by omega)).set _
    have q3 : Below w.heap.size w wf := by rw [← hwf]; exact ((hbb.setCell (by dsimp only; omega) _).setCell (by dsimp only; omega) _).setCell (by dsimp only; omega) _
    have HQ2 := hide (And.intro q0 (And.intro q1 (And.intro q2 q3)))
    have HWF := hide hwf
    clear hb K27 a0 a1 a2 hb2 q0 q1 q2 q3 hwf r0 r1 r2 hbb
    go_wp2
    rw [HWF.out]
    obtain ⟨q0, q1, q2, q3⟩ := HQ2.out
    have c0 := q0.cell
    have c1 := q1.cell
    have c2 := q2.cell
    exact bodyPost_ret (v := .tuple #[.slice none 0 0, .bool false, .int .i64 z]) (by simp [results, Tryz.results31, go_sem, c0, c1, c2]) rfl ⟨none, 0, by rw [HRS.out, HRB.out, HQ.out]; rfl, by rw [HRS.out]; exact Sl.nil (by decide), q3⟩
end Go.Proofs.YtnngemgfochodaaGreat.J
