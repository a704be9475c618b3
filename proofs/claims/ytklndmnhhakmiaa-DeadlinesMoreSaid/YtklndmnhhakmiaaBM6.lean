/-
  budgets: the statements' helpers.
  hansardlaw40.sane answers true.
  The laws' arguments: budgets; trades; one of each.
  budgets: what the statements say, plainly.
-/
import Derived.Test.YtklndmnhhakmiaaBM5
import Derived.Test.YtklndmnhhakmiaaLift6
import Derived.Test.YtklndmnhhakmiaaLift5
import Derived.Test.YtklndmnhhakmiaaRows
namespace Go.Proofs.Ytklndmnhhakmiaa
open Go.RowKit Go.Mine Go.Mine.B Go.Sort Go.Shelf
attribute [local go_sem] Oper.semAt_some
theorem eq24 (d : Nat) (a1 a2 a3 a4 b1 b2 b3 b4 : Int) (w : World) : (Op.equalIn (d + 2) 24 (.agg #[.int .i64 a1, .int .i64 a2, .int .i64 a3, .int .i64 a4]) (.agg #[.int .i64 b1, .int .i64 b2, .int .i64 b3, .int .i64 b4])).run Try.prog w = .ok (a1 == b1 && (a2 == b2 && (a3 == b3 && a4 == b4))) w := by
  simp only [Op.equalIn, Sem.run_bind, run_underlying Try.underlying24, Result.andThen_ok, Try.sizeOf3]
  simp [List.range', part, go_sem]
  by_cases h1 : a1 = b1
  · by_cases h2 : a2 = b2
    · by_cases h3 : a3 = b3
      · by_cases h4 : a4 = b4
        · simp [h1, h2, h3, h4]
        · simp [h1, h2, h3, h4]
      · simp [h1, h2, h3]
    · simp [h1, h2]
  · simp [h1]
set_option maxHeartbeats 4000000 in
theorem same22 (A B : Option Addr) (c d : Nat) (la lb : List Bu) (w : World) (hA : Sl buC 5 w A c la) (hB : Sl buC 5 w B d lb) :
    Calls Try.prog 22 #[.slice A la.length c, .slice B lb.length d] w fun e w' => e = .returned (.bool (decide (la = lb))) ∧ Below w.heap.size w w' := by
  have a1 := hA.le
  have a2 := hA.max
  have b1 := hB.le
  have b2 := hB.max
  by_cases hl : la.length = lb.length
  · have g1 : ((la.length : Int) != (lb.length : Int)) = false := by simp [hl]
    have HL := hide hl
    clear hl
    have e24 := eq24
    go_enter Try.func22, Try.ntmps22
    go_wp2
    go_loopw [5] (fun i wr => ∃ (k : Nat), k ≤ la.length ∧ i = .int .i64 k ∧ la.take k = lb.take k ∧ Below w.heap.size w wr) (fun i _ => la.length - (nI i).toNat)
    case atStart => exact ⟨0, Nat.zero_le _, rfl, rfl, Below.refl _ _⟩
    case round =>
      obtain ⟨k, hk, rfl, ht, hb⟩ := hrel
      by_cases hlt : k < la.length
      · obtain ⟨x, ba, oa, hx, _, rfl, _, p1, p2, p3, p4, p5⟩ := Sl.bu_at (hA.bel hb) hlt
        obtain ⟨y, bb, ob, hy, _, rfl, _, q1, q2, q3, q4, q5⟩ := Sl.bu_at (hB.bel hb) (show k < lb.length by rw [← HL.out]; exact hlt)
        have hkb : (k : Int) < lb.length := by have := HL.out; omega
        have HT := hide ht
        have HX := hide hx
        have HY := hide hy
        clear ht hx hy hA hB
        by_cases hxy : x = y
        · subst hxy
          go_wp2_with fail
          refine wp_still_all (by kernel_rfl) (by kernel_rfl) ?_
          repeat ((with_reducible refine wpStill_step (fun K hK => ?_)); go_simp; (try go_bits); (with_reducible refine hK _ ?_); clear hK K)
          (with_reducible refine wpStill_nil ?_)
          go_wp2
          go_roundw
          case rel => exact ⟨k + 1, by omega, by go_num, by rw [take_of_get HX.out, take_of_get HY.out, HT.out], hb.drew⟩
          case measure => simp [nI]; omega
        · have hne : la ≠ lb := by
            intro e; subst e
            have := HX.out.symm.trans HY.out
            exact hxy (by simpa using this)
          have HN := hide hne
          clear HX HY HT hne
          obtain ⟨x1, x2, x3, x4, x5⟩ := x
          obtain ⟨y1, y2, y3, y4, y5⟩ := y
          simp only at p1 p2 p3 p4 p5 q1 q2 q3 q4 q5
          by_cases h1 : x1 = y1
          · subst h1
            by_cases h2 : x2 = y2
            · subst h2
              by_cases h3 : x3 = y3
              · subst h3
                by_cases h4 : x4 = y4
                · subst h4
                  by_cases h5 : x5 = y5
                  · exact absurd (by rw [h5]) hxy
                  · clear hxy
                    (go_wp2_with fail; refine wp_still_all (by kernel_rfl) (by kernel_rfl) ?_; (repeat ((with_reducible refine wpStill_step (fun K hK => ?_)); go_simp; (try go_bits); (with_reducible refine hK _ ?_); clear hK K)); (with_reducible refine wpStill_nil ?_); go_wp2; go_ret; exact ⟨ret_bool (by simp [HN.out]), hb.drew⟩)
                · clear hxy
                  (go_wp2_with fail; refine wp_still_all (by kernel_rfl) (by kernel_rfl) ?_; (repeat ((with_reducible refine wpStill_step (fun K hK => ?_)); go_simp; (try go_bits); (with_reducible refine hK _ ?_); clear hK K)); (with_reducible refine wpStill_nil ?_); go_wp2; go_ret; exact ⟨ret_bool (by simp [HN.out]), hb.drew⟩)
              · clear hxy
                (go_wp2_with fail; refine wp_still_all (by kernel_rfl) (by kernel_rfl) ?_; (repeat ((with_reducible refine wpStill_step (fun K hK => ?_)); go_simp; (try go_bits); (with_reducible refine hK _ ?_); clear hK K)); (with_reducible refine wpStill_nil ?_); go_wp2; go_ret; exact ⟨ret_bool (by simp [HN.out]), hb.drew⟩)
            · clear hxy
              (go_wp2_with fail; refine wp_still_all (by kernel_rfl) (by kernel_rfl) ?_; (repeat ((with_reducible refine wpStill_step (fun K hK => ?_)); go_simp; (try go_bits); (with_reducible refine hK _ ?_); clear hK K)); (with_reducible refine wpStill_nil ?_); go_wp2; go_ret; exact ⟨ret_bool (by simp [HN.out]), hb.drew⟩)
          · clear hxy
            (go_wp2_with fail; refine wp_still_all (by kernel_rfl) (by kernel_rfl) ?_; (repeat ((with_reducible refine wpStill_step (fun K hK => ?_)); go_simp; (try go_bits); (with_reducible refine hK _ ?_); clear hK K)); (with_reducible refine wpStill_nil ?_); go_wp2; go_ret; exact ⟨ret_bool (by simp [HN.out]), hb.drew⟩)
      · have HT := hide ht
        clear ht
        go_wp2
        go_ret
        refine ⟨ret_bool ?_, hb⟩
        have h := HT.out
        rw [List.take_of_length_le (by omega), List.take_of_length_le (by have := HL.out; omega)] at h
        simp [h]
  · have g1 : ((la.length : Int) != (lb.length : Int)) = true := by rw [bne_iff_ne]; omega
    go_enter Try.func22, Try.ntmps22
    go_wp2
    go_ret
    exact ⟨ret_bool (by simp; intro e; exact hl (by rw [e])), Below.refl _ _⟩
def fewB (b : List Bu) (l : List Tr) : Bool := decide (b.length ≤ 40) && (decide (l.length ≤ 40) || (decide (4096 < l.length) && decide (l.length ≤ 4200)))
theorem few15 (A B : Option Addr) (c d : Nat) (b : List Bu) (l : List Tr) (w : World) :
    Calls Try.prog 15 #[.slice A b.length c, .slice B l.length d] w fun e w' => e = .returned (.bool (fewB b l)) ∧ w = w' := by
  have HE := hide (show fewB b l = (decide (b.length ≤ 40) && (decide (l.length ≤ 40) || (decide (4096 < l.length) && decide (l.length ≤ 4200)))) from rfl)
  generalize fewB b l = R at HE ⊢
  by_cases h1 : b.length ≤ 40
  · by_cases h2 : l.length ≤ 40
    · go_enter Try.func15, Try.ntmps15
      go_wp2
      go_ret
      exact ⟨ret_bool (by rw [HE.out]; first | (simp [h1, h2]; done) | (simp [h1, h2]; omega)), rfl⟩
    · by_cases h3 : 4096 < l.length
      · by_cases h4 : l.length ≤ 4200
        · go_enter Try.func15, Try.ntmps15
          go_wp2
          go_ret
          exact ⟨ret_bool (by rw [HE.out]; first | (simp [h1, h3, h4]; done) | (simp [h1, h3, h4]; omega)), rfl⟩
        · go_enter Try.func15, Try.ntmps15
          go_wp2
          go_ret
          exact ⟨ret_bool (by rw [HE.out]; first | (simp [h2, h4]; done) | (simp [h2, h4]; omega)), rfl⟩
      · go_enter Try.func15, Try.ntmps15
        go_wp2
        go_ret
        exact ⟨ret_bool (by rw [HE.out]; first | (simp [h2, h3]; done) | (simp [h2, h3]; omega)), rfl⟩
  · go_enter Try.func15, Try.ntmps15
    go_wp2
    go_ret
    exact ⟨ret_bool (by rw [HE.out]; first | (simp [h1]; done) | (simp [h1]; omega)), rfl⟩
def rightL (b : List Bu) (l : List Tr) (ts : List Int) : Bool := ts.all timeB && (decide (l.length ≤ 40) && decide (chk 400 b l = 0))
set_option maxHeartbeats 4000000 in
theorem right23 (A : Option Addr) (c : Nat) (b : List Bu) (B : Option Addr) (d : Nat) (l : List Tr) (C : Option Addr) (f : Nat) (ts : List Int) (w : World) (hS : Sl buC 5 w A c b) (hT : Sl trC 7 w B d l) (hC : Sl ic 1 w C f ts) :
    Calls Try.prog 23 #[.slice A b.length c, .slice B l.length d, .slice C ts.length f] w fun e w' => e = .returned (.bool (rightL b l ts)) ∧ Below w.heap.size w w' := by
  have hlf := hC.le
  have hcf := hC.max
  have K := hide (check19 A c b B d l w hS hT)
  have HE := hide (show rightL b l ts = ((ts.drop 0).all timeB && (decide (l.length ≤ 40) && decide (chk 400 b l = 0))) from rfl)
  generalize rightL b l ts = R at HE ⊢
  generalize chk 400 b l = z at *
  have HC := hide hC
  clear hS hT hC
  go_enter Try.func23, Try.ntmps23
  go_wp2
  go_loop [8, 11] (fun _ i => ∃ k : Nat, k ≤ ts.length ∧ i = .int .i64 k ∧ Hid (R = ((ts.drop k).all timeB && (decide (l.length ≤ 40) && decide (z = 0))))) (fun _ i => ts.length - (nI i).toNat)
  case atStart => exact ⟨0, Nat.zero_le _, rfl, HE⟩
  case round =>
    obtain ⟨k, hk, rfl, HQ⟩ := hrel
    by_cases hlt : k < ts.length
    · obtain ⟨x, bb, off, hx, hdr, rfl, hbw, c1⟩ := Sl.ic_at HC.out hlt
      have hq := HQ.out
      rw [hdr, List.all_cons] at hq
      have HX := hide (timeB_iff (t := x))
      have HQ2 := hide hq
      clear hq HQ hx hdr HE
      rcases Bool.eq_false_or_eq_true (timeB x) with ht | ht
      · have hx1 := HX.out.1 ht
        have g1 : decide (x < 0) = false := by simp; omega
        have g2 : decide (1099511627776 ≤ x) = false := by simp; omega
        have HQ3 := hide (HQ2.out.trans (by rw [ht, Bool.true_and]))
        clear ht hx1 HQ2 HX
        go_wp2
        go_round
        case rel => exact ⟨k + 1, by omega, by go_num, HQ3⟩
        case measure => simp [nI]; omega
      · have HQ3 := hide (HQ2.out.trans (by rw [ht, Bool.false_and, Bool.false_and]))
        by_cases hx0 : x < 0
        · have g1 : decide (x < 0) = true := by simpa using hx0
          clear ht HQ2 HX
          go_wp2
          go_ret
          exact ⟨ret_bool HQ3.out.symm, Below.refl _ _⟩
        · have g1 : decide (x < 0) = false := by simpa using hx0
          have g2 : decide (1099511627776 ≤ x) = true := by
            have : ¬ (0 ≤ x ∧ x < 1099511627776) := fun h => by have := HX.out.2 h; rw [ht] at this; cases this
            simp; omega
          clear ht HQ2 HX
          go_wp2
          go_ret
          exact ⟨ret_bool HQ3.out.symm, Below.refl _ _⟩
    · have hq := HQ.out
      rw [List.drop_of_length_le (by omega), List.all_nil, Bool.true_and] at hq
      have HQ2 := hide hq
      clear hq HQ HE HC
      by_cases h40 : l.length ≤ 40
      · rcases Classical.em (z = 0) with rfl | hz
        · go_wp2_with (refine K.out.mono ?_; rintro e w1 ⟨rfl, hb⟩)
          go_ret
          exact ⟨ret_bool (by rw [HQ2.out]; simp [h40]), hb⟩
        · have gz : (z == 0) = false := by simpa using hz
          have HZ := hide hz
          clear hz
          go_wp2_with (refine K.out.mono ?_; rintro e w1 ⟨rfl, hb⟩)
          go_ret
          exact ⟨ret_bool (by rw [HQ2.out]; simp [HZ.out]), hb⟩
      · go_wp2
        go_ret
        exact ⟨ret_bool (by rw [HQ2.out]; simp [h40]), Below.refl _ _⟩
def twoL : List Bu := [⟨0, (5, 5, 5, 5)⟩, ⟨1, (5, 5, 5, 5)⟩]
theorem bsl_blk {α : Type} {f : α → List Value} {sz : Nat} {W : World} {b c : Nat} {ty : TypeId} {cs : Array Value} (h : Blk W b ty cs) (l : List α) (hcs : cs.toList = l.flatMap f) (hs : ∀ x ∈ l, (f x).length = sz) (hn : l.length ≤ c) (hc : c ≤ 1000) : Sl f sz W (some ⟨b, 0, none⟩) c l :=
  ⟨hn, by omega, hs, fun _ => ⟨b, 0, rfl, h.lt, fun i v hv => by
    simp only [Nat.zero_add, World.cell?, h.at_]
    rw [← Array.getElem?_toList, hcs]
    simpa using hv⟩⟩
theorem blit {α : Type} (f : α → List Value) (sz : Nat) (w : World) (ty : TypeId) (l : List α) (n : Nat) {cs : Array Value} {b : Nat} (hcs : cs.toList = l.flatMap f) (hb : w.heap.size = b) (hs : ∀ x ∈ l, (f x).length = sz) (hn : l.length = n) (hm : n ≤ 1000) : Sl f sz (w.alloc (.cells cs ty)) (some ⟨b, 0, none⟩) n l := by
  subst hb; exact bsl_blk (Blk.new w _ ty) l hcs hs (by omega) hm
theorem two32 (w : World) : Calls Try.prog 32 #[] w fun e w' => ∃ b, e = .returned (.slice (some ⟨b, 0, none⟩) 2 2) ∧ Sl buC 5 w' (some ⟨b, 0, none⟩) 2 twoL ∧ Below w.heap.size w w' := by
  go_enter Try.func32, Try.ntmps32
  go_wp2
  go_ret
  exact ⟨_, rfl, blit buC 5 w 26 twoL 2 rfl rfl (fun _ _ => rfl) rfl (by decide), kalloc (Below.refl _ _) _⟩
end Go.Proofs.Ytklndmnhhakmiaa
namespace Go.Proofs.Ytklndmnhhakmiaa
open Go.RowKit Go.Mine Go.Mine.B Go.Sort Go.Shelf
attribute [local go_sem] Oper.semAt_some
def okI (n : Int) : Bool := decide (-1000000000000000 ≤ n) && decide (n ≤ 1000000000000000)
theorem okI_64 {n : Int} (h : okI n = true) : I64 n := by unfold okI at h; simp only [Bool.and_eq_true, decide_eq_true_eq] at h; unfold I64; omega
def okBu (b : List Bu) : Bool := b.all fun y => okI y.lang
def okTr (l : List Tr) : Bool := l.all fun x => okI x.fr && okI x.to
theorem okBu_S {b : List Bu} (h : okBu b = true) : buS b := fun y hy => okI_64 (List.all_eq_true.1 h y hy)
theorem okTr_S {l : List Tr} (h : okTr l = true) : trS l := fun x hx => by
  have := List.all_eq_true.1 h x hx
  simp only [Bool.and_eq_true] at this
  exact ⟨okI_64 this.1, okI_64 this.2⟩
section
variable {A B : Option Addr} {c d : Nat} {b : List Bu} {l : List Tr} {w : World}
theorem stand_lit (hS : Sl buC 5 w A c b) (hT : Sl trC 7 w B d l) (n m : Nat) (at_ known E : Int) (x : List Bu) (k : Nat) (hn : b.length = n) (hm : l.length = m) (hI : okBu b = true) (hJ : okTr l = true) (h1 : standL b l at_ known = x) (hk : x.length = k) (h2 : standE b l at_ known = E) :
    Calls Try.prog 20 #[.slice A n c, .slice B m d, .int .i64 at_, .int .i64 known] w fun e w' => ∃ A' c', e = .returned (.tuple #[.slice A' k c', .int .i64 E]) ∧ Sl buC 5 w' A' c' x ∧ Below w.heap.size w w' := by
  subst hn hm hk h1 h2; exact standing20 A c b B d l at_ known w hS hT (okBu_S hI) (okTr_S hJ)
theorem check_lit (hS : Sl buC 5 w A c b) (hT : Sl trC 7 w B d l) (n m : Nat) (C : Int) (hn : b.length = n) (hm : l.length = m) (hI : okBu b = true) (hJ : okTr l = true) (h : chk 400 b l = C) :
    Calls Try.prog 18 #[.slice A n c, .slice B m d] w fun e w' => e = .returned (.int .i64 C) ∧ Below w.heap.size w w' := by
  subst hn hm h; exact check18 A c b B d l w hS hT (okBu_S hI) (okTr_S hJ)
theorem path_lit (x : Bu) (s p E : Int) (v : Value) (hv : v = buV x) (h1 : pathR x s = (p, E)) : Calls Try.prog 16 #[v, .int .i64 s] w fun e w' => e = .returned (.tuple #[.int .i64 p, .int .i64 E]) ∧ Below w.heap.size w w' := by
  have := path16 x s w; rw [h1] at this; subst hv; exact this
theorem same_lit {x : List Bu} (hA : Sl buC 5 w A c x) (hB : Sl buC 5 w B d x) (k : Nat) (hk : x.length = k) :
    Calls Try.prog 22 #[.slice A k c, .slice B k d] w fun e w' => e = .returned (.bool true) ∧ Below w.heap.size w w' := by
  subst hk
  have K := same22 A B c d x x w hA hB
  rwa [decide_eq_true rfl] at K
end
theorem sbu_nil (w : World) : Sl buC 5 w none 0 ([] : List Bu) := Sl.nil (by decide)
theorem str_nil (w : World) : Sl trC 7 w none 0 ([] : List Tr) := Sl.nil (by decide)
set_option maxHeartbeats 8000000 in
set_option maxRecDepth 100000 in
theorem sane14 (w : World) : Calls Try.prog 14 #[] w fun e w' => e = .returned (.bool true) ∧ Below w.heap.size w w' := by
  have HB0 := hide (Below.refl w.heap.size w)
  go_enter Try.func14, Try.ntmps14
  go_wp2_with fail
  refine (stand_lit (b := []) (l := []) (sbu_nil _) (str_nil _) 0 0 0 0 0 [] 0 rfl rfl rfl rfl (by decide) rfl (by decide)).mono ?_
  rintro e w1 ⟨A1, c1, rfl, hS, hb⟩
  have R1 := hide hS
  have HB1 := hide (kcall HB0.out hb)
  clear hb HB0
  clear hS
  clear R1
  go_wp2_with fail
  refine (two32 _).mono ?_
  rintro e w2 ⟨b2, rfl, hS, hb⟩
  have T2 := hide hS
  have HB2 := hide (kcall HB1.out hb)
  clear hb HB1
  clear hS
  go_wp2_with fail
  refine (stand_lit (b := twoL) (l := [(⟨0, 0, 0, 2, 0, 1, 5⟩ : Tr)]) (T2.out.alloc _) (blit trC 7 _ 40 [(⟨0, 0, 0, 2, 0, 1, 5⟩ : Tr)] 1 rfl rfl (fun _ _ => rfl) rfl (by decide)) 2 1 0 0 0 [⟨0, (5, 5, 0, 5)⟩, ⟨1, (5, 5, 10, 5)⟩] 2 rfl rfl rfl rfl (by decide) rfl (by decide)).mono ?_
  rintro e w3 ⟨A3, c3, rfl, hS, hb⟩
  have T2 := hide ((T2.out.alloc _).bel hb)
  have R3 := hide hS
  have HB3 := hide (kcall (kalloc HB2.out _) hb)
  clear hb HB2
  clear hS
  clear T2
  go_wp2_with fail
  refine (two32 _).mono ?_
  rintro e w4 ⟨b4, rfl, hS, hb⟩
  have R3 := hide ((R3.out).bel hb)
  have T4 := hide hS
  have HB4 := hide (kcall HB3.out hb)
  clear hb HB3
  clear hS
  go_wp2_with fail
  refine (stand_lit (b := twoL) (l := [(⟨0, 0, 0, 2, 0, 1, 6⟩ : Tr)]) (T4.out.alloc _) (blit trC 7 _ 40 [(⟨0, 0, 0, 2, 0, 1, 6⟩ : Tr)] 1 rfl rfl (fun _ _ => rfl) rfl (by decide)) 2 1 0 0 0 twoL 2 rfl rfl rfl rfl (by decide) rfl (by decide)).mono ?_
  rintro e w5 ⟨A5, c5, rfl, hS, hb⟩
  have R3 := hide ((R3.out.alloc _).bel hb)
  have T4 := hide ((T4.out.alloc _).bel hb)
  have R5 := hide hS
  have HB5 := hide (kcall (kalloc HB4.out _) hb)
  clear hb HB4
  clear hS
  clear T4
  go_wp2_with fail
  refine (two32 _).mono ?_
  rintro e w6 ⟨b6, rfl, hS, hb⟩
  have R3 := hide ((R3.out).bel hb)
  have R5 := hide ((R5.out).bel hb)
  have T6 := hide hS
  have HB6 := hide (kcall HB5.out hb)
  clear hb HB5
  clear hS
  go_wp2_with fail
  refine (stand_lit (b := twoL) (l := [(⟨0, 3, 2, 2, 0, 1, 5⟩ : Tr)]) (T6.out.alloc _) (blit trC 7 _ 40 [(⟨0, 3, 2, 2, 0, 1, 5⟩ : Tr)] 1 rfl rfl (fun _ _ => rfl) rfl (by decide)) 2 1 2 2 0 twoL 2 rfl rfl rfl rfl (by decide) rfl (by decide)).mono ?_
  rintro e w7 ⟨A7, c7, rfl, hS, hb⟩
  have R3 := hide ((R3.out.alloc _).bel hb)
  have R5 := hide ((R5.out.alloc _).bel hb)
  have T6 := hide ((T6.out.alloc _).bel hb)
  have R7 := hide hS
  have HB7 := hide (kcall (kalloc HB6.out _) hb)
  clear hb HB6
  clear hS
  clear T6
  go_wp2_with fail
  refine (stand_lit (b := []) (l := []) (sbu_nil _) (str_nil _) 0 0 (-1) 0 1 [] 0 rfl rfl rfl rfl (by decide) rfl (by decide)).mono ?_
  rintro e w8 ⟨A8, c8, rfl, hS, hb⟩
  have R3 := hide ((R3.out).bel hb)
  have R5 := hide ((R5.out).bel hb)
  have R7 := hide ((R7.out).bel hb)
  have R8 := hide hS
  have HB8 := hide (kcall HB7.out hb)
  clear hb HB7
  clear hS
  clear R8
  go_wp2_with fail
  refine (path_lit ⟨0, (10, 20, 30, 40)⟩ 2 60 0 _ rfl (by decide)).mono ?_
  rintro e w9 ⟨rfl, hb⟩
  have R3 := hide ((R3.out).bel hb)
  have R5 := hide ((R5.out).bel hb)
  have R7 := hide ((R7.out).bel hb)
  have HB9 := hide (kcall HB8.out hb)
  clear hb HB8
  go_wp2_with fail
  refine (path_lit ⟨0, q0⟩ 4 0 1 _ rfl (by decide)).mono ?_
  rintro e w10 ⟨rfl, hb⟩
  have R3 := hide ((R3.out).bel hb)
  have R5 := hide ((R5.out).bel hb)
  have R7 := hide ((R7.out).bel hb)
  have HB10 := hide (kcall HB9.out hb)
  clear hb HB9
  go_wp2_with fail
  refine (path_lit ⟨-1, q0⟩ 0 0 400 _ rfl (by decide)).mono ?_
  rintro e w11 ⟨rfl, hb⟩
  have R3 := hide ((R3.out).bel hb)
  have R5 := hide ((R5.out).bel hb)
  have R7 := hide ((R7.out).bel hb)
  have HB11 := hide (kcall HB10.out hb)
  clear hb HB10
  go_wp2_with fail
  refine (same_lit (x := [⟨0, (5, 5, 0, 5)⟩, ⟨1, (5, 5, 10, 5)⟩]) (R3.out.alloc _) (blit buC 5 _ 26 [⟨0, (5, 5, 0, 5)⟩, ⟨1, (5, 5, 10, 5)⟩] 2 rfl rfl (fun _ _ => rfl) rfl (by decide)) 2 rfl).mono ?_
  rintro e w12 ⟨rfl, hb⟩
  have R3 := hide ((R3.out.alloc _).bel hb)
  have R5 := hide ((R5.out.alloc _).bel hb)
  have R7 := hide ((R7.out.alloc _).bel hb)
  have HB12 := hide (kcall (kalloc HB11.out _) hb)
  clear hb HB11
  clear R3
  go_wp2_with fail
  refine (two32 _).mono ?_
  rintro e w13 ⟨b13, rfl, hS, hb⟩
  have R5 := hide ((R5.out).bel hb)
  have R7 := hide ((R7.out).bel hb)
  have T13 := hide hS
  have HB13 := hide (kcall HB12.out hb)
  clear hb HB12
  clear hS
  go_wp2_with fail
  refine (same_lit (x := twoL) R5.out T13.out 2 rfl).mono ?_
  rintro e w14 ⟨rfl, hb⟩
  have R5 := hide ((R5.out).bel hb)
  have R7 := hide ((R7.out).bel hb)
  have T13 := hide ((T13.out).bel hb)
  have HB14 := hide (kcall HB13.out hb)
  clear hb HB13
  clear T13
  clear R5
  go_wp2_with fail
  refine (two32 _).mono ?_
  rintro e w15 ⟨b15, rfl, hS, hb⟩
  have R7 := hide ((R7.out).bel hb)
  have T15 := hide hS
  have HB15 := hide (kcall HB14.out hb)
  clear hb HB14
  clear hS
  go_wp2_with fail
  refine (same_lit (x := twoL) R7.out T15.out 2 rfl).mono ?_
  rintro e w16 ⟨rfl, hb⟩
  have R7 := hide ((R7.out).bel hb)
  have T15 := hide ((T15.out).bel hb)
  have HB16 := hide (kcall HB15.out hb)
  clear hb HB15
  clear T15
  clear R7
  go_wp2_with fail
  refine (check_lit (b := [⟨1, q0⟩, ⟨1, q0⟩]) (l := []) (blit buC 5 _ 26 [⟨1, q0⟩, ⟨1, q0⟩] 2 rfl rfl (fun _ _ => rfl) rfl (by decide)) (str_nil _) 2 0 400 rfl rfl rfl rfl (by decide)).mono ?_
  rintro e w17 ⟨rfl, hb⟩
  have HB17 := hide (kcall (kalloc HB16.out _) hb)
  clear hb HB16
  go_wp2_with fail
  refine (two32 _).mono ?_
  rintro e w18 ⟨b18, rfl, hS, hb⟩
  have T18 := hide hS
  have HB18 := hide (kcall HB17.out hb)
  clear hb HB17
  clear hS
  go_wp2_with fail
  refine (check_lit (b := twoL) (l := [(⟨0, 0, 0, 0, 1, 1, 1⟩ : Tr)]) (T18.out.alloc _) (blit trC 7 _ 40 [(⟨0, 0, 0, 0, 1, 1, 1⟩ : Tr)] 1 rfl rfl (fun _ _ => rfl) rfl (by decide)) 2 1 400 rfl rfl rfl rfl (by decide)).mono ?_
  rintro e w19 ⟨rfl, hb⟩
  have T18 := hide ((T18.out.alloc _).bel hb)
  have HB19 := hide (kcall (kalloc HB18.out _) hb)
  clear hb HB18
  clear T18
  go_wp2_with fail
  refine (two32 _).mono ?_
  rintro e w20 ⟨b20, rfl, hS, hb⟩
  have T20 := hide hS
  have HB20 := hide (kcall HB19.out hb)
  clear hb HB19
  clear hS
  go_wp2_with fail
  refine (check_lit (b := twoL) (l := []) T20.out (str_nil _) 2 0 0 rfl rfl rfl rfl (by decide)).mono ?_
  rintro e w21 ⟨rfl, hb⟩
  have T20 := hide ((T20.out).bel hb)
  have HB21 := hide (kcall HB20.out hb)
  clear hb HB20
  clear T20
  go_wp2
  go_ret
  exact ⟨rfl, HB21.out⟩
end Go.Proofs.Ytklndmnhhakmiaa
namespace Go.Proofs.Ytklndmnhhakmiaa
open Go.RowKit Go.Shelf Go.Mine Go.Mine.B Go.ChangeShapes Go.WideShapes Go.ChangeAt
theorem Try.own : ownKnob Try.prog.godebug = none := by kernel_rfl
theorem Try.laidOut : laidOutB Try.prog = true := by kernel_rfl
/-- numbers of a budget are numbers -/
def BuS (x : Bu) : Prop := I64 x.lang ∧ I64 x.q.1 ∧ I64 x.q.2.1 ∧ I64 x.q.2.2.1 ∧ I64 x.q.2.2.2
def TrS (x : Tr) : Prop := I64 x.no ∧ I64 x.at_ ∧ I64 x.known ∧ I64 x.stg ∧ I64 x.fr ∧ I64 x.to ∧ I64 x.ms
theorem BuS.all {b : List Bu} (h : ∀ x ∈ b, BuS x) : buS b := fun y hy => (h y hy).1
theorem TrS.all {l : List Tr} (h : ∀ x ∈ l, TrS x) : trS l := fun y hy => ⟨(h y hy).2.2.2.2.1, (h y hy).2.2.2.2.2.1⟩
section
variable {Hh : Type} {enc : TypeId × Value → Hh} {w : World} {base b0 : Nat} {held : Bool} {r : Reach} {v : Value} {dd : DataW Hh} {ps : List MemPlace}
theorem int_of {n : Nat} {c : Value} {x : DataW Hh × List MemPlace} (h : DataW.trod enc Try.prog w base (fun _ => true) held n 3 [c] = some x) : ∃ z : Int, c = .int .i64 z ∧ I64 z := by
  obtain ⟨z, hz1, _, hz3⟩ := DataW.trod_int Try.underlying3 h
  exact ⟨z, by simpa using hz1, i64ok_of hz3⟩
theorem bu_el (cs : List Value) (n : Nat) (x : DataW Hh × List MemPlace) (hl : cs.length = 5) (h : DataW.trod enc Try.prog w base (fun _ => true) held n 26 cs = some x) : ∃ y, cs = buC y ∧ BuS y := by
  obtain ⟨y0, y1, m, rfl, _, h0, h1⟩ := trod_struct2 (t := 26) Try.underlying26 h
  match cs, hl with
  | [c0, c1, c2, c3, c4], _ =>
    have e0 : DataW.trod enc Try.prog w base (fun _ => true) held m 3 [c0] = some y0 := by simpa [show Try.prog.cellsOf 3 = 1 by kernel_rfl] using h0
    have e1 : DataW.trod enc Try.prog w base (fun _ => true) held m 24 [c1, c2, c3, c4] = some y1 := by simpa [show Try.prog.cellsOf 24 = 4 by kernel_rfl] using h1
    obtain ⟨z0, z1, z2, z3, k, _, f0, f1, f2, f3⟩ := trod_array4 Try.underlying24 (by kernel_rfl) e1
    obtain ⟨n0, rfl, g0⟩ := int_of e0
    obtain ⟨n1, rfl, g1⟩ := int_of f0
    obtain ⟨n2, rfl, g2⟩ := int_of f1
    obtain ⟨n3, rfl, g3⟩ := int_of f2
    obtain ⟨n4, rfl, g4⟩ := int_of f3
    exact ⟨⟨n0, (n1, n2, n3, n4)⟩, rfl, g0, g1, g2, g3, g4⟩
theorem tr_el (cs : List Value) (n : Nat) (x : DataW Hh × List MemPlace) (hl : cs.length = 7) (h : DataW.trod enc Try.prog w base (fun _ => true) held n 40 cs = some x) : ∃ y, cs = trC y ∧ TrS y := by
  obtain ⟨xs, m, _, rfl, _, hlen, hf⟩ := DataW.trod_struct Try.underlying40 h
  have c3 : Try.prog.cellsOf 3 = 1 := by kernel_rfl
  match cs, hl, xs, hlen with
  | [c0, c1, c2, c3', c4, c5, c6], _, [y0, y1, y2, y3, y4, y5, y6], _ =>
    obtain ⟨n0, rfl, g0⟩ := int_of (show DataW.trod enc Try.prog w base (fun _ => true) held m 3 [c0] = some y0 by simpa [c3] using hf 0 _ rfl)
    obtain ⟨n1, rfl, g1⟩ := int_of (show DataW.trod enc Try.prog w base (fun _ => true) held m 3 [c1] = some y1 by simpa [c3] using hf 1 _ rfl)
    obtain ⟨n2, rfl, g2⟩ := int_of (show DataW.trod enc Try.prog w base (fun _ => true) held m 3 [c2] = some y2 by simpa [c3] using hf 2 _ rfl)
    obtain ⟨n3, rfl, g3⟩ := int_of (show DataW.trod enc Try.prog w base (fun _ => true) held m 3 [c3'] = some y3 by simpa [c3] using hf 3 _ rfl)
    obtain ⟨n4, rfl, g4⟩ := int_of (show DataW.trod enc Try.prog w base (fun _ => true) held m 3 [c4] = some y4 by simpa [c3] using hf 4 _ rfl)
    obtain ⟨n5, rfl, g5⟩ := int_of (show DataW.trod enc Try.prog w base (fun _ => true) held m 3 [c5] = some y5 by simpa [c3] using hf 5 _ rfl)
    obtain ⟨n6, rfl, g6⟩ := int_of (show DataW.trod enc Try.prog w base (fun _ => true) held m 3 [c6] = some y6 by simpa [c3] using hf 6 _ rfl)
    exact ⟨⟨n0, n1, n2, n3, n4, n5, n6⟩, rfl, g0, g1, g2, g3, g4, g5, g6⟩
theorem open_bus (hv : Value.okWide Try.prog w r b0 22 v) (h : DataW.Trod enc Try.prog w base (fun _ => true) held 22 v dd ps) :
    ∃ (A : Option Addr) (c : Nat) (l : List Bu), v = .slice A l.length c ∧ Sl buC 5 w A c l ∧ (∀ x ∈ l, BuS x) :=
  open_slG (Q := BuS) Try.underlying22 (by kernel_rfl) (by decide) (fun _ => rfl) bu_el hv h
theorem open_trs (hv : Value.okWide Try.prog w r b0 23 v) (h : DataW.Trod enc Try.prog w base (fun _ => true) held 23 v dd ps) :
    ∃ (A : Option Addr) (c : Nat) (l : List Tr), v = .slice A l.length c ∧ Sl trC 7 w A c l ∧ (∀ x ∈ l, TrS x) :=
  open_slG (Q := TrS) Try.underlying23 (by kernel_rfl) (by decide) (fun _ => rfl) tr_el hv h
theorem open_bu (hv : Value.okWide Try.prog w r b0 26 v) (h : DataW.Trod enc Try.prog w base (fun _ => true) held 26 v dd ps) : ∃ x : Bu, v = buV x ∧ BuS x := by
  obtain ⟨a, rfl, ha⟩ := okWide_struct (P := Try.prog) Try.underlying26 hv
  obtain ⟨fuel, hf⟩ := h
  obtain ⟨y, hy, hs⟩ := bu_el a.toList fuel _ (by simpa [show Try.prog.cellsOf 26 = 5 by kernel_rfl] using ha) (by simpa [Value.cells] using hf)
  exact ⟨y, by unfold buV; rw [← hy], hs⟩
theorem open_tr (hv : Value.okWide Try.prog w r b0 40 v) (h : DataW.Trod enc Try.prog w base (fun _ => true) held 40 v dd ps) : ∃ x : Tr, v = trV x ∧ TrS x := by
  obtain ⟨a, rfl, ha⟩ := okWide_struct (P := Try.prog) Try.underlying40 hv
  obtain ⟨fuel, hf⟩ := h
  obtain ⟨y, hy, hs⟩ := tr_el a.toList fuel _ (by simpa [show Try.prog.cellsOf 40 = 7 by kernel_rfl] using ha) (by simpa [Value.cells] using hf)
  exact ⟨y, by unfold trV; rw [← hy], hs⟩
end
end Go.Proofs.Ytklndmnhhakmiaa
namespace Go.Proofs.Ytklndmnhhakmiaa
open Go.RowKit Go.Mine Go.Mine.B
theorem rightL_parts {b : List Bu} {l : List Tr} {ts : List Int} (h : rightL b l ts = true) : (∀ t ∈ ts, timeB t = true) ∧ l.length ≤ 40 ∧ chk 400 b l = 0 := by
  simp only [rightL, Bool.and_eq_true, List.all_eq_true, decide_eq_true_eq] at h
  exact ⟨h.1, h.2.1, h.2.2⟩
theorem argA_of {at_ known : Int} (h1 : timeB at_ = true) (h2 : timeB known = true) : argA at_ known = true := by
  unfold argA; unfold timeB at h1 h2; rw [h1, h2]; rfl
theorem chk_of {b : List Bu} {l : List Tr} (h : chkB b l = true) (hb : b.length ≤ 32) (hl : l.length ≤ 4096) : chk 400 b l = 0 := (chk_zero (by decide)).2 ⟨h, hb, hl⟩
theorem standing_len (b : List Bu) (l : List Tr) (at_ known : Int) : (standing b l at_ known).length = b.length := view_len _ _
/-- the budgets that stand, with their trades, are right -/
theorem chk_stand {b : List Bu} {l m : List Tr} (h : chk 400 b l = 0) (at_ known : Int) (hm : m.Sublist l) : chk 400 (standing b l at_ known) m = 0 := by
  obtain ⟨h1, h2, h3⟩ := chk_zero' h
  refine chk_of (chkB_view h1 hm (okP_fin h1 at_ known)) (by rw [standing_len]; exact h2) (Nat.le_trans hm.length_le h3)
theorem chk_sub {b : List Bu} {l m : List Tr} (h : chk 400 b l = 0) (hm : m.Sublist l) : chk 400 b m = 0 := by
  obtain ⟨h1, h2, h3⟩ := chk_zero' h
  exact chk_of (chkB_sub h1 hm) h2 (Nat.le_trans hm.length_le h3)
theorem stand_lang {b : List Bu} {l : List Tr} (at_ known : Int) (h : buS b) : buS (standing b l at_ known) := by
  intro y hy
  obtain ⟨z, hz, rfl⟩ := List.mem_map.1 hy
  exact h z hz
theorem trS_sub {l m : List Tr} (h : trS l) (hm : m.Sublist l) : trS m := fun x hx => h x (hm.subset hx)
/-! ### sums -/
def addS (a q : Q) : Nat → Q
  | 0 => a
  | s + 1 => qs (addS a q s) (s : Int) (qg a (s : Int) + qg q (s : Int))
theorem addS_four (a q : Q) : addS a q 4 = (a.1 + q.1, a.2.1 + q.2.1, a.2.2.1 + q.2.2.1, a.2.2.2 + q.2.2.2) := by
  simp [addS, qs, qg]
theorem addS_get (a q : Q) {s : Nat} (hs : s < 4) : qg (addS a q s) (s : Int) = qg a (s : Int) := by
  have h : s = 0 ∨ s = 1 ∨ s = 2 ∨ s = 3 := by omega
  rcases h with rfl | rfl | rfl | rfl <;> simp [addS, qs, qg]
def sumQ (b : List Bu) : Q := b.foldl (fun a y => addS a y.q 4) q0
theorem sumQ_go : ∀ (b : List Bu) (a : Q), b.foldl (fun a y => addS a y.q 4) a = (a.1 + (b.map fun y => qg y.q 0).sum, a.2.1 + (b.map fun y => qg y.q 1).sum, a.2.2.1 + (b.map fun y => qg y.q 2).sum, a.2.2.2 + (b.map fun y => qg y.q 3).sum)
  | [], a => by simp
  | y :: b, a => by
    rw [List.foldl_cons, sumQ_go b, addS_four]
    simp only [List.map_cons, List.sum_cons, Int.add_assoc]
    rfl
theorem sumQ_stand {b : List Bu} {l : List Tr} (h : chkB b l = true) (at_ known : Int) : sumQ (standing b l at_ known) = sumQ b := by
  unfold sumQ
  rw [sumQ_go, sumQ_go, fin_sum h at_ known (s := 0) ⟨by omega, by omega⟩, fin_sum h at_ known (s := 1) ⟨by omega, by omega⟩, fin_sum h at_ known (s := 2) ⟨by omega, by omega⟩, fin_sum h at_ known (s := 3) ⟨by omega, by omega⟩]
theorem sumQ_next {b : List Bu} {k : Nat} {y : Bu} (h : b[k]? = some y) : sumQ (b.take (k + 1)) = addS (sumQ (b.take k)) y.q 4 := by
  rw [take_of_get h]
  unfold sumQ
  rw [List.foldl_append]
  rfl
def okS (n : Nat) (a : Q) : Prop := (0 ≤ a.1 ∧ a.1 ≤ n * 1073741824) ∧ (0 ≤ a.2.1 ∧ a.2.1 ≤ n * 1073741824) ∧ (0 ≤ a.2.2.1 ∧ a.2.2.1 ≤ n * 1073741824) ∧ (0 ≤ a.2.2.2 ∧ a.2.2.2 ≤ n * 1073741824)
theorem okS_next {n : Nat} {a q : Q} (h : okS n a) (hq : okQ q) : okS (n + 1) (addS a q 4) := by
  rw [addS_four]
  unfold okS okQ most at *
  simp only
  omega
theorem okS_get {n : Nat} {a : Q} (h : okS n a) (s : Int) : 0 ≤ qg a s ∧ qg a s ≤ n * 1073741824 := by
  obtain ⟨h1, h2, h3, h4⟩ := h
  unfold qg
  split
  · exact h1
  · split
    · exact h2
    · split
      · exact h3
      · exact h4
/-! ### what is kept -/
def nm (n : Int) (x : Tr) : Bool := (x.fr == n) || (x.to == n)
theorem kept_at {b : List Bu} {l : List Tr} (h : chkB b l = true) (at_ known : Int) {k : Nat} {y : Bu} (hk : b[k]? = some y) :
    ∃ q, (standing b l at_ known)[k]? = some ⟨y.lang, q⟩ ∧ okQ y.q ∧ okQ q ∧ (l.any (nm y.lang) = false → y = ⟨y.lang, q⟩) := by
  have hm := List.mem_of_getElem? hk
  refine ⟨((fin b l at_ known y.lang).getD q0), ?_, (rightB_ok ((chkB_parts h).1 y hm)).1, okP_get (okP_fin h at_ known) _, fun hn => ?_⟩
  · unfold standing viewB
    rw [List.getElem?_map, hk]; rfl
  · rw [fin_other h at_ known hm (fun x hx => by
      have := (List.any_eq_false.1 hn) x hx
      simp only [nm, Bool.or_eq_true, beq_iff_eq, not_or] at this
      exact ⟨fun e => this.1 e.symm, fun e => this.2 e.symm⟩)]
    rfl
/-- a cell of a budget's stages -/
theorem bu_q {w : World} {g off c : Nat} {b : List Bu} (h : Sl buC 5 w (some ⟨g, off, none⟩) c b) {k : Nat} {y : Bu} (hy : b[k]? = some y) {s : Nat} (hs : s < 4) : w.cell? ⟨g, off + k * 5 + 1 + s, none⟩ = some (.int .i64 (qg y.q (s : Int))) := by
  obtain ⟨b1, off1, hA1, _, hcell⟩ := h.addr (by intro e; subst e; simp at hy)
  cases hA1
  have := hcell k y hy (1 + s) _ (buC_get' y s hs)
  rwa [show off + (k * 5 + (1 + s)) = off + k * 5 + 1 + s by omega] at this
/-- stages apart -/
theorem stage_at {b : List Bu} {l : List Tr} (h : chkB b l = true) (at_ known : Int) {s : Nat} (hs : s < 4) {k : Nat} {y z : Bu} (hy : (standing b l at_ known)[k]? = some y) (hz : (standing b (l.filter fun x => decide (x.stg = (s : Int))) at_ known)[k]? = some z) : qg y.q (s : Int) = qg z.q (s : Int) := by
  unfold standing viewB at hy hz
  rw [List.getElem?_map] at hy hz
  obtain ⟨u, hu, rfl⟩ := Option.map_eq_some_iff.1 hy
  rw [hu] at hz
  cases hz
  exact fin_stage h at_ known ⟨by omega, by omega⟩ u.lang
end Go.Proofs.Ytklndmnhhakmiaa
