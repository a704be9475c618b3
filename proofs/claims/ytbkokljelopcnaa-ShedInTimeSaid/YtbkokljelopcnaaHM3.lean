/-
  shed: Lost, Less, better, SameInts, Few of the reference.
  shed: Shed of the reference.
-/
import Derived.Test.YtbkokljelopcnaaHM2
namespace Go.Proofs.Ytbkokljelopcnaa
open Go.RowKit Go.Mine Go.Mine.Q
attribute [local go_sem] Oper.semAt_some
theorem lostN_snoc (l : List Jb) (x : Jb) (keep : List Int) : lostN (l ++ [x]) keep = (if keep.contains x.no = true then lostN l keep else if x.alt = true then ((lostN l keep).1, (lostN l keep).2 + 1) else ((lostN l keep).1 + 1, (lostN l keep).2)) := by
  unfold lostN lostW lostA
  rw [List.filter_append, sumF_append, sumF_append]
  cases h : keep.contains x.no
  · rw [show List.filter (fun x => !keep.contains x.no) [x] = [x] by rw [List.filter_cons_of_pos (by rw [h]; rfl)]; rfl]
    cases ha : x.alt <;> simp [sumF, ha]
  · rw [show List.filter (fun x => !keep.contains x.no) [x] = [] by rw [List.filter_cons_of_neg (by rw [h]; decide)]; rfl]
    simp [sumF]
theorem lostN_bound (l : List Jb) (keep : List Int) : 0 ≤ (lostN l keep).1 ∧ (lostN l keep).1 ≤ l.length ∧ 0 ≤ (lostN l keep).2 ∧ (lostN l keep).2 ≤ l.length := by
  unfold lostN
  have h1 := lost_nonneg (l.filter fun x => !keep.contains x.no)
  have h2 := lost_len (l.filter fun x => !keep.contains x.no)
  have h3 := List.length_filter_le (fun x : Jb => !keep.contains x.no) l
  simp only
  omega
set_option maxRecDepth 100000 in
set_option maxHeartbeats 8000000 in
theorem lost36 (A : Option Addr) (c : Nat) (l : List Jb) (B : Option Addr) (d : Nat) (keep : List Int) (w : World) (hS : Sl jbC 5 w A c l) (hT : Sl ic 1 w B d keep) (hl : l.length ≤ 1000) :
    Calls Try.prog 36 #[.slice A l.length c, .slice B keep.length d] w fun e w' => e = .returned (.tuple #[.int .i64 (lostN l keep).1, .int .i64 (lostN l keep).2]) ∧ Below w.heap.size w w' := by
  have hlc := hS.le
  have hc := hS.max
  have hld := hT.le
  have hd := hT.max
  have HS := hide hS
  have HT := hide hT
  clear hS hT
  go_enter Try.func36, Try.ntmps36
  go_wp2
  go_loopw [6, 7, 8] (fun v6 v7 v8 wr => ∃ (k : Nat) (u v : Int), k ≤ l.length ∧ v8 = .int .i64 k ∧ v6 = .int .i64 u ∧ v7 = .int .i64 v ∧ Hid (lostN (l.take k) keep = (u, v)) ∧ Hid (Below w.heap.size w wr)) (fun _ _ i _ => l.length - (nI i).toNat)
  case atStart => exact ⟨0, 0, 0, Nat.zero_le _, rfl, rfl, rfl, rfl, Below.refl _ _⟩
  case round =>
    obtain ⟨k, u, v, hk, rfl, rfl, rfl, HQ, HB⟩ := hrel
    obtain ⟨wo, hwo⟩ : ∃ x, x = wr := ⟨_, rfl⟩
    subst hwo
    by_cases hlt : k < l.length
    · obtain ⟨x, hx⟩ : ∃ x, l[k]? = some x := ⟨_, List.getElem?_eq_getElem hlt⟩
      have HX := hide hx
      have kz : (k : Int) < (l.length : Int) := by omega
      have hbd := lostN_bound (l.take k) keep
      rw [HQ.out] at hbd
      have htl : (l.take k).length ≤ 1000 := Nat.le_trans (List.length_take_le' _ _) hl
      have hwu : IntKind.i64.wrap (u + 1) = u + 1 := by rw [IntKind.wrap_i64]; simp only at hbd; omega
      have hwv : IntKind.i64.wrap (v + 1) = v + 1 := by rw [IntKind.wrap_i64]; simp only at hbd; omega
      clear hx hbd htl
      go_wp2
      go_loopw [9, 10] (fun v9 v10 wr => ∃ (i : Nat), i ≤ keep.length ∧ v10 = .int .i64 i ∧ v9 = .bool ((keep.take i).contains x.no) ∧ Hid (Below w.heap.size w wr)) (fun _ i _ => keep.length - (nI i).toNat)
      case atStart => exact ⟨0, Nat.zero_le _, rfl, by simp, HB⟩
      case round =>
        clear HB
        obtain ⟨i, hi, rfl, rfl, HB⟩ := hrel
        obtain ⟨x', b, off, hx', _, rfl, hbw, d0, d1, d2, d3, d4⟩ := Sl.jb_at (HS.out.bel HB.out) hlt
        obtain rfl : x' = x := by rw [HX.out] at hx'; exact (Option.some.inj hx').symm
        clear hx'
        by_cases hlt2 : i < keep.length
        · obtain ⟨n, b2, off2, hn, _, rfl, hbw2, p0⟩ := Sl.ic_at (HT.out.bel HB.out) hlt2
          have iz : (i : Int) < (keep.length : Int) := by omega
          have HBd := hide HB.out.drew
          have HN : Hid ((keep.take (i + 1)).contains x'.no = ((keep.take i).contains x'.no || (n == x'.no))) := hide (by
            rw [take_of_get hn, Bool.eq_iff_iff]
            simp only [List.contains_iff_mem, List.mem_append, List.mem_singleton, Bool.or_eq_true, beq_iff_eq]
            constructor
            · rintro (h | h)
              · exact .inl h
              · exact .inr h.symm
            · rintro (h | h)
              · exact .inl h
              · exact .inr h.symm)
          generalize (keep.take i).contains x'.no = b0 at *
          clear hn
          cases b0
          · have e := HN.out
            rw [Bool.false_or] at e
            have HN2 := hide e
            clear HN e
            (go_wp2_with fail; refine wp_still_all (by kernel_rfl) (by kernel_rfl) ?_; (repeat (first | ((with_reducible refine wpStill_step (fun K hK => ?_)); go_simp; (try go_bits); (with_reducible refine hK _ ?_); clear hK K) | ((with_reducible refine wpStill_step (fun K hK => ?_)); go_simp; rw [if_neg (by simp [undef])]; (with_reducible refine hK _ ?_); clear hK K))); (with_reducible refine wpStill_nil ?_))
            go_wp2
            go_roundw
            case rel => exact ⟨i + 1, by omega, by go_num, by rw [HN2.out], HBd⟩
            case measure => simp [nI]; omega
          · have e := HN.out
            rw [Bool.true_or] at e
            have HN2 := hide e
            clear HN e
            (go_wp2_with fail; refine wp_still_all (by kernel_rfl) (by kernel_rfl) ?_; (repeat (first | ((with_reducible refine wpStill_step (fun K hK => ?_)); go_simp; (try go_bits); (with_reducible refine hK _ ?_); clear hK K) | ((with_reducible refine wpStill_step (fun K hK => ?_)); go_simp; rw [if_neg (by simp [undef])]; (with_reducible refine hK _ ?_); clear hK K))); (with_reducible refine wpStill_nil ?_))
            go_wp2
            go_roundw
            case rel => exact ⟨i + 1, by omega, by go_num, by rw [HN2.out], HBd⟩
            case measure => simp [nI]; omega
        · rw [List.take_of_length_le (show keep.length ≤ i by omega)]
          have HS2 : Hid (lostN (l.take (k + 1)) keep = (if keep.contains x'.no = true then (u, v) else if x'.alt = true then (u, v + 1) else (u + 1, v))) := hide (by rw [take_of_get HX.out, lostN_snoc, HQ.out])
          generalize keep.contains x'.no = b0 at *
          generalize hal : x'.alt = al at *
          clear d0 d1 d2 d3 HX HQ
          cases b0 <;> cases al
          all_goals
            have e := HS2.out
            simp only [Bool.false_eq_true, if_false, if_true] at e
            have HE := hide e
            clear e HS2
            go_wp2
            go_roundw
            case rel => exact ⟨k + 1, _, _, by omega, by go_num, rfl, rfl, HE, HB⟩
            case measure => simp [nI]; omega
    · have hq := HQ.out
      rw [List.take_of_length_le (by omega)] at hq
      have H := hide hq
      clear hq HQ
      go_wp2
      exact bodyPost_ret (v := .tuple #[.int .i64 u, .int .i64 v]) (by simp [results, Try.results36, go_sem]) rfl ⟨by rw [H.out], HB.out⟩
theorem lexL_nil (b : List Int) : lexL [] b = decide ((0 : Int) < (b.length : Int)) := by
  cases b <;> simp [lexL]
theorem lexL_nilr (a : List Int) : lexL a [] = false := by cases a <;> rfl
set_option maxHeartbeats 4000000 in
theorem less37 (A B : Option Addr) (c d : Nat) (a b : List Int) (w : World) (hA : Sl ic 1 w A c a) (hB : Sl ic 1 w B d b) :
    Calls Try.prog 37 #[.slice A a.length c, .slice B b.length d] w fun e w' => e = .returned (.bool (lexL a b)) ∧ Below w.heap.size w w' := by
  have a1 := hA.le
  have a2 := hA.max
  have b1 := hB.le
  have b2 := hB.max
  have HA := hide hA
  have HB := hide hB
  obtain ⟨R, hR⟩ : ∃ R, lexL a b = R := ⟨_, rfl⟩
  rw [hR]
  have HR := hide (show R = lexL (a.drop 0) (b.drop 0) from hR.symm)
  clear hA hB hR
  go_enter Try.func37, Try.ntmps37
  go_wp2
  go_loopw [5] (fun v5 wr => ∃ (k : Nat), k ≤ a.length ∧ k ≤ b.length ∧ v5 = .int .i64 k ∧ Hid (R = lexL (a.drop k) (b.drop k)) ∧ Hid (Below w.heap.size w wr)) (fun i _ => a.length - (nI i).toNat)
  case atStart => exact ⟨0, Nat.zero_le _, Nat.zero_le _, rfl, HR, Below.refl _ _⟩
  case round =>
    clear HR
    obtain ⟨k, hk1, hk2, rfl, HQ, HW⟩ := hrel
    by_cases hla : k < a.length
    · by_cases hlb : k < b.length
      · obtain ⟨x, ba, oa, hx, hdx, rfl, _, p0⟩ := Sl.ic_at (HA.out.bel HW.out) hla
        obtain ⟨y, bb, ob, hy, hdy, rfl, _, q0⟩ := Sl.ic_at (HB.out.bel HW.out) hlb
        have hq := HQ.out
        rw [hdx, hdy, lexL] at hq
        have ka : (k : Int) < (a.length : Int) := by omega
        have kb : (k : Int) < (b.length : Int) := by omega
        have HWd := hide HW.out.drew
        have HWd2 := hide HW.out.drew.drew
        clear hx hy hdx hdy HQ
        by_cases hxy : x = y
        · subst hxy
          rw [if_pos rfl] at hq
          have H := hide hq
          clear hq
          (go_wp2_with fail; refine wp_still_all (by kernel_rfl) (by kernel_rfl) ?_; (repeat (first | ((with_reducible refine wpStill_step (fun K hK => ?_)); go_simp; (try go_bits); (with_reducible refine hK _ ?_); clear hK K) | ((with_reducible refine wpStill_step (fun K hK => ?_)); go_simp; rw [if_neg (by simp [undef])]; (with_reducible refine hK _ ?_); clear hK K))); (with_reducible refine wpStill_nil ?_))
          go_wp2
          go_roundw
          case rel => exact ⟨k + 1, by omega, by omega, by go_num, H, HWd⟩
          case measure => simp [nI]; omega
        · rw [if_neg hxy] at hq
          have H := hide hq
          have g1 : (x != y) = true := by simpa using hxy
          clear hq hxy
          (go_wp2_with fail; refine wp_still_all (by kernel_rfl) (by kernel_rfl) ?_; (repeat (first | ((with_reducible refine wpStill_step (fun K hK => ?_)); go_simp; (try go_bits); (with_reducible refine hK _ ?_); clear hK K) | ((with_reducible refine wpStill_step (fun K hK => ?_)); go_simp; rw [if_neg (by simp [undef])]; (with_reducible refine hK _ ?_); clear hK K))); (with_reducible refine wpStill_nil ?_))
          (go_wp2_with fail; refine wp_still_all (by kernel_rfl) (by kernel_rfl) ?_; (repeat (first | ((with_reducible refine wpStill_step (fun K hK => ?_)); go_simp; (try go_bits); (with_reducible refine hK _ ?_); clear hK K) | ((with_reducible refine wpStill_step (fun K hK => ?_)); go_simp; rw [if_neg (by simp [undef])]; (with_reducible refine hK _ ?_); clear hK K))); (with_reducible refine wpStill_nil ?_))
          go_wp2
          go_ret
          exact ⟨ret_bool H.out.symm, HWd2.out⟩
      · have hq := HQ.out
        rw [List.drop_of_length_le (show b.length ≤ k by omega), lexL_nilr] at hq
        have H := hide hq
        have hl2 : ¬ (a.length : Int) < (b.length : Int) := by omega
        clear hq HQ
        go_wp2
        go_ret
        exact ⟨ret_bool (by rw [H.out]), HW.out⟩
    · have hq := HQ.out
      rw [List.drop_of_length_le (show a.length ≤ k by omega), lexL_nil] at hq
      have hlen : (decide ((0 : Int) < ((b.drop k).length : Int))) = decide ((a.length : Int) < (b.length : Int)) := by
        have : k = a.length := by omega
        subst this
        rw [List.length_drop]
        by_cases h : a.length < b.length
        · rw [decide_eq_true (by omega), decide_eq_true (by omega)]
        · rw [decide_eq_false (by omega), decide_eq_false (by omega)]
      rw [hlen] at hq
      have H := hide hq
      clear hq hlen HQ
      go_wp2
      go_ret
      exact ⟨ret_bool (by rw [H.out]; simp), HW.out⟩
def chN (l : List Jb) (keep : List Int) : Ch := ⟨(lostN l keep).1, (lostN l keep).2, keep⟩
set_option maxHeartbeats 4000000 in
theorem better58 (A B D : Option Addr) (c d f : Nat) (l : List Jb) (a b : List Int) (w : World) (hS : Sl jbC 5 w A c l) (hA : Sl ic 1 w B d a) (hB : Sl ic 1 w D f b) (hl : l.length ≤ 1000) :
    Calls Try.prog 58 #[.slice A l.length c, .slice B a.length d, .slice D b.length f] w fun e w' => e = .returned (.bool (lessC (chN l a) (chN l b))) ∧ Below w.heap.size w w' := by
  have K1 := hide (lost36 A c l B d a w hS hA hl)
  have K2 := hide (fun W (h : Below w.heap.size w W) => lost36 A c l D f b W (hS.bel h) (hB.bel h) hl)
  have K3 := hide (fun W (h : Below w.heap.size w W) => less37 B D d f a b W (hA.bel h) (hB.bel h))
  have HE : Hid (lessC (chN l a) (chN l b) = (decide ((lostN l a).1 < (lostN l b).1) || (decide ((lostN l a).1 = (lostN l b).1) && (decide ((lostN l a).2 < (lostN l b).2) || (decide ((lostN l a).2 = (lostN l b).2) && lexL a b))))) := hide rfl
  generalize lessC (chN l a) (chN l b) = R at *
  generalize lostN l a = p at *
  generalize lostN l b = q at *
  generalize lexL a b = r at *
  obtain ⟨u, v⟩ := p
  obtain ⟨x, y⟩ := q
  simp only at K1 K2 HE
  clear hS hA hB
  have hcs : ((u != x) = true ∧ R = decide (u < x)) ∨ ((u != x) = false ∧ (v != y) = true ∧ R = decide (v < y)) ∨ ((u != x) = false ∧ (v != y) = false ∧ R = r) := by
    rw [HE.out]
    by_cases h1 : u = x
    · subst h1
      right
      by_cases h2 : v = y
      · subst h2; right; simp
      · left; simp [h2]
    · left; simp [h1]
  clear HE
  rcases hcs with ⟨g1, H⟩ | ⟨g1, g2, H⟩ | ⟨g1, g2, H⟩
  all_goals
    replace H := hide H
    go_enter Try.func58, Try.ntmps58
    go_wp2_with fail
    refine K1.out.mono ?_
    rintro e w1 ⟨rfl, hb⟩
    have HB1 := hide hb
    clear hb K1
    go_wp2_with fail
    refine (K2.out w1 HB1.out).mono ?_
    rintro e w2 ⟨rfl, hb⟩
    have HB2 := hide (kcall HB1.out hb)
    clear hb K2
  · go_wp2
    go_ret
    exact ⟨ret_bool H.out.symm, HB2.out⟩
  · go_wp2
    go_ret
    exact ⟨ret_bool H.out.symm, HB2.out⟩
  · go_wp2_with fail
    refine (K3.out w2 HB2.out).mono ?_
    rintro e w3 ⟨rfl, hb⟩
    have HB3 := hide (kcall HB2.out hb)
    go_wp2
    go_ret
    exact ⟨ret_bool H.out.symm, HB3.out⟩
set_option maxHeartbeats 4000000 in
theorem same33 (A B : Option Addr) (c d : Nat) (a b : List Int) (w : World) (hA : Sl ic 1 w A c a) (hB : Sl ic 1 w B d b) :
    Calls Try.prog 33 #[.slice A a.length c, .slice B b.length d] w fun e w' => e = .returned (.bool (decide (a = b))) ∧ Below w.heap.size w w' := by
  have a1 := hA.le
  have a2 := hA.max
  have b1 := hB.le
  have b2 := hB.max
  by_cases hl : a.length = b.length
  · have g1 : ((a.length : Int) != (b.length : Int)) = false := by simp [hl]
    have HL := hide hl
    have HA := hide hA
    have HB := hide hB
    clear hl hA hB
    go_enter Try.func33, Try.ntmps33
    go_wp2
    go_loopw [5] (fun i wr => ∃ (k : Nat), k ≤ a.length ∧ i = .int .i64 k ∧ Hid (a.take k = b.take k) ∧ Hid (Below w.heap.size w wr)) (fun i _ => a.length - (nI i).toNat)
    case atStart => exact ⟨0, Nat.zero_le _, rfl, rfl, Below.refl _ _⟩
    case round =>
      obtain ⟨k, hk, rfl, HT, HW⟩ := hrel
      by_cases hlt : k < a.length
      · obtain ⟨x, ba, oa, hx, _, rfl, _, p0⟩ := Sl.ic_at (HA.out.bel HW.out) hlt
        obtain ⟨y, bb, ob, hy, _, rfl, _, q0⟩ := Sl.ic_at (HB.out.bel HW.out) (show k < b.length by rw [← HL.out]; exact hlt)
        have ka : (k : Int) < a.length := by omega
        have kb : (k : Int) < b.length := by have := HL.out; omega
        have HX := hide hx
        have HY := hide hy
        have HWd := hide HW.out.drew
        clear hx hy
        by_cases hxy : x = y
        · subst hxy
          have HT2 : Hid (a.take (k + 1) = b.take (k + 1)) := hide (by rw [take_of_get HX.out, take_of_get HY.out, HT.out])
          (go_wp2_with fail; refine wp_still_all (by kernel_rfl) (by kernel_rfl) ?_; (repeat (first | ((with_reducible refine wpStill_step (fun K hK => ?_)); go_simp; (try go_bits); (with_reducible refine hK _ ?_); clear hK K) | ((with_reducible refine wpStill_step (fun K hK => ?_)); go_simp; rw [if_neg (by simp [undef])]; (with_reducible refine hK _ ?_); clear hK K))); (with_reducible refine wpStill_nil ?_))
          go_wp2
          go_roundw
          case rel => exact ⟨k + 1, by omega, by go_num, HT2, HWd⟩
          case measure => simp [nI]; omega
        · have hne : a ≠ b := by
            intro e; subst e
            have := HX.out.symm.trans HY.out
            exact hxy (by simpa using this)
          have HN := hide hne
          have gx : (x != y) = true := by simpa using hxy
          clear hne hxy
          (go_wp2_with fail; refine wp_still_all (by kernel_rfl) (by kernel_rfl) ?_; (repeat (first | ((with_reducible refine wpStill_step (fun K hK => ?_)); go_simp; (try go_bits); (with_reducible refine hK _ ?_); clear hK K) | ((with_reducible refine wpStill_step (fun K hK => ?_)); go_simp; rw [if_neg (by simp [undef])]; (with_reducible refine hK _ ?_); clear hK K))); (with_reducible refine wpStill_nil ?_))
          go_wp2
          go_ret
          exact ⟨ret_bool (by simp [HN.out]), HWd.out⟩
      · have h := HT.out
        rw [List.take_of_length_le (by omega), List.take_of_length_le (by have := HL.out; omega)] at h
        have HE := hide h
        clear h
        go_wp2
        go_ret
        exact ⟨ret_bool (by simp [HE.out]), HW.out⟩
  · have g1 : ((a.length : Int) != (b.length : Int)) = true := by simp; omega
    have hne : a ≠ b := fun e => hl (by rw [e])
    have HN := hide hne
    clear hne hl hA hB
    go_enter Try.func33, Try.ntmps33
    go_wp2
    go_ret
    exact ⟨ret_bool (by simp [HN.out]), Below.refl _ _⟩
def fewH (l : List Jb) : Bool := decide (l.length ≤ 8) || (decide (10 < l.length) && decide (l.length ≤ 70))
set_option maxHeartbeats 4000000 in
theorem few30 (A : Option Addr) (c : Nat) (l : List Jb) (w : World) (hS : Sl jbC 5 w A c l) :
    Calls Try.prog 30 #[.slice A l.length c] w fun e w' => e = .returned (.bool (fewH l)) ∧ w = w' := by
  have hlc := hS.le
  have hc := hS.max
  clear hS
  have HE := hide (show fewH l = (decide (l.length ≤ 8) || (decide (10 < l.length) && decide (l.length ≤ 70))) from rfl)
  generalize fewH l = R at HE ⊢
  by_cases h1 : l.length ≤ 8
  · have g1 : (l.length : Int) ≤ 8 := by omega
    have e : R = true := by rw [HE.out]; simp [h1]
    subst e
    clear HE h1
    go_enter Try.func30, Try.ntmps30
    go_wp2
    go_ret
    exact ⟨rfl, rfl⟩
  · have g1 : ¬ (l.length : Int) ≤ 8 := by omega
    by_cases h2 : 10 < l.length
    · have g2 : (10 : Int) < l.length := by omega
      by_cases h3 : l.length ≤ 70
      · have g3 : (l.length : Int) ≤ 70 := by omega
        have e : R = true := by rw [HE.out]; simp [h2, h3]
        subst e
        clear HE h1 h2 h3
        go_enter Try.func30, Try.ntmps30
        go_wp2
        go_ret
        exact ⟨rfl, rfl⟩
      · have g3 : ¬ (l.length : Int) ≤ 70 := by omega
        have e : R = false := by rw [HE.out]; simp [h1, h3]
        subst e
        clear HE h1 h2 h3
        go_enter Try.func30, Try.ntmps30
        go_wp2
        go_ret
        exact ⟨rfl, rfl⟩
    · have g2 : ¬ (10 : Int) < l.length := by omega
      have e : R = false := by rw [HE.out]; simp [h1, h2]
      subst e
      clear HE h1 h2
      go_enter Try.func30, Try.ntmps30
      go_wp2
      go_ret
      exact ⟨rfl, rfl⟩
end Go.Proofs.Ytbkokljelopcnaa
namespace Go.Proofs.Ytbkokljelopcnaa
open Go.RowKit Go.Mine Go.Mine.Q
attribute [local go_sem] Oper.semAt_some
theorem selM_snoc (x : Jb) : ∀ (l : List Jb) (m : Nat), selM (l ++ [x]) m = selM l m ++ (if m / 2 ^ l.length % 2 = 1 then [x] else [])
  | [], m => by
    show (if m % 2 = 1 then _ else _) = _
    simp [selM]
  | y :: l, m => by
    have ih := selM_snoc x l (m / 2)
    rw [Nat.div_div_eq_div_mul, ← Nat.pow_succ'] at ih
    show (if m % 2 = 1 then y :: selM (l ++ [x]) (m / 2) else selM (l ++ [x]) (m / 2)) = (if m % 2 = 1 then y :: selM l (m / 2) else selM l (m / 2)) ++ _
    rw [ih]
    split <;> simp
theorem bit_i64 (m i : Nat) (hm : m < 2 ^ 62) : bits .and .i64 ((m : Int) / 2 ^ i) 1 = ((m / 2 ^ i % 2 : Nat) : Int) := by
  have hq : m / 2 ^ i ≤ m := Nat.div_le_self _ _
  have e0 : ((m : Int) / 2 ^ i) = ((m / 2 ^ i : Nat) : Int) := by simp
  rw [e0]
  generalize m / 2 ^ i = q at *
  have hx : q % 2 < 2 := Nat.mod_lt _ (by decide)
  have h1 : (BitVec.ofInt 64 (q : Int)).toNat = q := by
    rw [BitVec.ofInt_natCast, BitVec.toNat_ofNat]; exact Nat.mod_eq_of_lt (by omega)
  have h2 : (BitVec.ofInt 64 (1 : Int)).toNat = 1 := by decide
  show IntKind.i64.wrap ((BitVec.ofInt 64 (q : Int) &&& BitVec.ofInt 64 (1 : Int)).toNat : Int) = _
  rw [BitVec.toNat_and, h1, h2, Nat.and_one_is_mod, IntKind.wrap_i64]
  omega
def ShedE (l : List Jb) (w : World) (e : Ending) (w' : World) : Prop := ∃ A c, e = .returned (.tuple #[.slice A (if errH l = 0 then shedN l else []).length c, .int .i64 (if errH l = 0 then shedW l else 0), .int .i64 (if errH l = 0 then shedA l else 0), .int .i64 (errH l)]) ∧ Sl ic 1 w' A c (if errH l = 0 then shedN l else []) ∧ Below w.heap.size w w'
def nosM (l : List Jb) (m : Nat) : List Int := (selM l m).map (·.no)
theorem chN_mask {l : List Jb} (h : Inc l) (m : Nat) : chN l (nosM l m) = chM l m := by
  unfold chN chM nosM
  rw [lostN_mask h]
theorem nosM_len (l : List Jb) (m : Nat) : (nosM l m).length ≤ l.length := by
  unfold nosM
  rw [List.length_map]; exact (selM_sub l m).length_le
theorem fits_mask {l : List Jb} (h : Wt l) (m : Nat) : fitsB l (nosM l m) = feasM l m := by
  unfold fitsB nosM
  rw [h.kept (selM_sub _ _)]; rfl
set_option maxRecDepth 100000 in
set_option maxHeartbeats 8000000 in
theorem shed32_good (A : Option Addr) (c : Nat) (l : List Jb) (w : World) (hS : Sl jbC 5 w A c l) (hz : errH l = 0) : Calls Try.prog 32 #[.slice A l.length c] w (ShedE l w) := by
  have hW := Wt.of hz
  have hlc := hS.le
  have hc := hS.max
  have hl10 := hW.len
  have HS := hide hS
  have HW := hide hW
  have K1 := hide (error57 A c l w hS)
  rw [hz] at K1
  have KF := hide (fun (B : Option Addr) (d : Nat) (keep : List Int) W (h : Below w.heap.size w W) (hT : Sl ic 1 W B d keep) (hk : keep.length ≤ 100000) => fits35_good A c l B d keep W (hS.bel h) hT hz hk)
  have KB := hide (fun (B D : Option Addr) (d f : Nat) (a b : List Int) W (h : Below w.heap.size w W) (hA : Sl ic 1 W B d a) (hB : Sl ic 1 W D f b) => better58 A B D c d f l a b W (hS.bel h) hA hB (by omega))
  have KL := hide (fun (B : Option Addr) (d : Nat) (keep : List Int) W (h : Below w.heap.size w W) (hT : Sl ic 1 W B d keep) => lost36 A c l B d keep W (hS.bel h) hT (by omega))
  unfold ShedE
  rw [if_pos hz, if_pos hz, if_pos hz, hz]
  obtain ⟨i0, hi, hz0, hz1, hz2⟩ := info_parts Try_info3
  have HI := hide hi
  clear hS hW hz hi
  go_enter Try.func32, Try.ntmps32
  go_wp2_with fail
  refine K1.out.mono ?_
  rintro e w1 ⟨rfl, hb⟩
  have HB1 := hide hb
  clear hb K1
  go_wp2
  go_loopw [7, 8] (fun v7 v8 wr => ∃ (m : Nat) (A7 : Option Addr) (c7 : Nat), 1 ≤ m ∧ m ≤ 2 ^ l.length ∧ v8 = .int .i64 m ∧ v7 = .slice A7 (nosM l (bestM l m)).length c7 ∧ Hid (Sl ic 1 wr A7 c7 (nosM l (bestM l m))) ∧ Hid (Below w.heap.size w wr)) (fun _ i _ => 2 ^ l.length - (nI i).toNat)
  case atStart =>
    have e : nosM l (bestM l 1) = [] := by rw [bestM_one]; unfold nosM; rw [(selM_zero l).1]; rfl
    exact ⟨1, none, 0, Nat.le_refl _, Nat.pow_pos (by decide), rfl, by rw [e]; rfl, by rw [e]; exact Sl.nil (by decide), HB1⟩
  case round =>
    clear HB1
    obtain ⟨m, A7, c7, hm1, hm2, rfl, rfl, HS7, HB⟩ := hrel
    obtain ⟨wo, hwo⟩ : ∃ x, x = wr := ⟨_, rfl⟩
    subst hwo
    have hpow : 2 ^ l.length ≤ 1024 := by
      have : 2 ^ l.length ≤ 2 ^ 10 := Nat.pow_le_pow_right (by decide) hl10
      exact this
    have hsh : ((2 : Int) ^ l.length) = ((2 ^ l.length : Nat) : Int) := by simp
    have HM : Hid (shedM l = bestM l (2 ^ l.length)) := hide rfl
    generalize hN : 2 ^ l.length = N at *
    have HN := hide hN
    clear hN
    by_cases hlt : m < N
    · have mz : (m : Int) < (N : Int) := by omega
      have hbn := nosM_len l (bestM l m)
      go_wp2
      go_loopw [9, 10] (fun v9 v10 wr => ∃ (i : Nat), i ≤ l.length ∧ v10 = .int .i64 i ∧ Hid (OwnL ic 1 3 wr wo.heap.size v9 (nosM (l.take i) m)) ∧ Hid (Below wo.heap.size wo wr)) (fun _ i _ => l.length - (nI i).toNat)
      case atStart => exact ⟨0, Nat.zero_le _, rfl, by rw [List.take_zero]; exact OwnL.nil _ _ _ _ _, Below.refl _ _⟩
      case round =>
        obtain ⟨i, hi, rfl, HO, HC⟩ := hrel
        by_cases hlt2 : i < l.length
        · have iz : (i : Int) < (l.length : Int) := by omega
          have HB2 : Hid (Below w.heap.size w wr) := hide (kcall HB.out HC.out)
          obtain ⟨x, b, off, hx, _, rfl, hbw, d0, d1, d2, d3, d4⟩ := Sl.jb_at (HS.out.bel HB2.out) hlt2
          have hbit := bit_i64 m i (by omega)
          have hsn : nosM (l.take (i + 1)) m = nosM (l.take i) m ++ (if m / 2 ^ i % 2 = 1 then [x.no] else []) := by
            unfold nosM
            rw [take_of_get hx, selM_snoc, List.map_append, List.length_take, Nat.min_eq_left hi]
            split <;> rfl
          have hln := nosM_len (l.take i) m
          rw [List.length_take, Nat.min_eq_left hi] at hln
          by_cases hb1 : m / 2 ^ i % 2 = 1
          · rw [if_pos hb1] at hsn
            have hg : (bits .and .i64 ((m : Int) / 2 ^ i) 1 == 1) = true := by rw [hbit, hb1]; rfl
            have HSN := hide hsn
            clear hsn hbit hb1 hx d1 d2 d3 d4
            generalize nosM (l.take i) m = k0 at *
            go_wp2_with (at_builtin; refine wpList_append rfl (.tmp 38) (.tmp 44) 49 rfl rfl rfl (run_extend (f := ic) (base := wo.heap.size) (l1 := k0) (l2 := [x.no]) Try.underlying49 HI.out hz0 hz1 hz2 rfl (by decide) (HO.out.alloc _) (Sl.one (Blk.new _ _ _) rfl rfl (by decide) (by decide)) (ic_onel _) ?_ ?_ ?_) ?_)
            · simp only [List.length_singleton]; unfold maxLen; omega
            · simp only [List.length_singleton]; omega
            · have := HC.out.size; simp; omega
            · intro v9 w9 hO9 hg9 hat9
              rw [← HSN.out] at hO9
              have HO9 := hide hO9
              have HC9 : Hid (Below wo.heap.size wo w9) := hide (Below.grown (kalloc HC.out _) hg9 (by have := HC.out.size; simp; omega) (fun g hg => (HO.out.blk hg).1))
              clear hO9 hg9 hat9 d0 HO HC HB2
              go_wp2
              go_roundw
              case rel => exact ⟨i + 1, by omega, by go_num, HO9, HC9⟩
              case measure => simp [nI]; omega
          · rw [if_neg hb1, List.append_nil] at hsn
            have hg : (bits .and .i64 ((m : Int) / 2 ^ i) 1 == 1) = false := by rw [hbit]; simp only [beq_eq_false_iff_ne, ne_eq]; omega
            have HSN := hide hsn
            clear hsn hbit hb1 hx d0 d1 d2 d3 d4
            go_wp2
            go_roundw
            case rel => exact ⟨i + 1, by omega, by go_num, by rw [HSN.out]; exact HO.out, HC.out⟩
            case measure => simp [nI]; omega
        · obtain rfl : i = l.length := by omega
          rw [List.take_of_length_le (Nat.le_refl _)] at HO
          obtain ⟨A9, c9, rfl, hS9⟩ := HO.out.sl
          have hln := nosM_len l m
          have HS9 := hide hS9
          have HB2 : Hid (Below w.heap.size w wr) := hide (kcall HB.out HC.out)
          have HS7' := hide (HS7.out.bel HC.out)
          have KF1 := hide (KF.out A9 c9 (nosM l m) wr HB2.out hS9 (by omega))
          rw [fits_mask HW.out] at KF1
          have KB1 := hide (fun W (h : Below wr.heap.size wr W) => KB.out A9 A7 c9 c7 (nosM l m) (nosM l (bestM l m)) W (kcall HB2.out h) (HS9.out.bel h) (HS7'.out.bel h))
          rw [chN_mask HW.out.inc, chN_mask HW.out.inc] at KB1
          have HST : Hid (bestM l (m + 1) = if feasM l m = true ∧ lessC (chM l m) (chM l (bestM l m)) = true then m else bestM l m) := hide rfl
          clear hS9 HO HS7 HC
          generalize feasM l m = fm at *
          generalize lessC (chM l m) (chM l (bestM l m)) = lm at *
          cases fm
          · rw [if_neg (by simp)] at HST
            go_wp2_with fail
            refine KF1.out.mono ?_
            rintro e w' ⟨rfl, hb⟩
            have HB3 := hide (kcall HB2.out hb)
            have HS3 := hide (HS7'.out.bel hb)
            clear hb KF1 KB1 HB2 HS7'
            go_wp2
            go_roundw
            case rel => exact ⟨m + 1, A7, c7, by omega, by omega, by go_num, by rw [HST.out], by rw [HST.out]; exact HS3.out, HB3⟩
            case measure => simp [nI]; omega
          · go_wp2_with fail
            refine KF1.out.mono ?_
            rintro e w' ⟨rfl, hb⟩
            have HB3 := hide hb
            clear hb KF1
            go_wp2_with fail
            refine (KB1.out w' HB3.out).mono ?_
            rintro e w'' ⟨rfl, hb⟩
            have HB4 := hide (kcall HB3.out hb)
            have HB5 := hide (kcall HB2.out HB4.out)
            have HS7n := hide (HS7'.out.bel HB4.out)
            have HS9n := hide (HS9.out.bel HB4.out)
            clear hb KB1 HB3 HB4 HB2 HS7' HS9
            cases lm
            · rw [if_neg (by simp)] at HST
              go_wp2
              go_roundw
              case rel => exact ⟨m + 1, A7, c7, by omega, by omega, by go_num, by rw [HST.out], by rw [HST.out]; exact HS7n.out, HB5⟩
              case measure => simp [nI]; omega
            · rw [if_pos (by simp)] at HST
              go_wp2
              go_roundw
              case rel => exact ⟨m + 1, A9, c9, by omega, by omega, by go_num, by rw [HST.out], by rw [HST.out]; exact HS9n.out, HB5⟩
              case measure => simp [nI]; omega
    · obtain rfl : m = N := by omega
      rw [← HM.out] at HS7
      rw [← HM.out, show nosM l (shedM l) = shedN l from rfl]
      have HS7' : Hid (Sl ic 1 wo A7 c7 (shedN l)) := HS7
      have KL1 := hide (KL.out A7 c7 (shedN l) wo HB.out HS7'.out)
      rw [shed_lost HW.out] at KL1
      clear HS7
      go_wp2_with fail
      refine KL1.out.mono ?_
      rintro e w' ⟨rfl, hb⟩
      have HB3 := hide (kcall HB.out hb)
      have HS3 := hide (HS7'.out.bel hb)
      go_wp2
      exact bodyPost_ret (v := .tuple #[.slice A7 (shedN l).length c7, .int .i64 (shedW l), .int .i64 (shedA l), .int .i64 0]) (by simp [results, Try.results32, go_sem]) rfl ⟨A7, c7, rfl, HS3.out, HB3.out⟩
theorem shed32 (A : Option Addr) (c : Nat) (l : List Jb) (w : World) (hS : Sl jbC 5 w A c l) : Calls Try.prog 32 #[.slice A l.length c] w (ShedE l w) := by
  by_cases hz : errH l = 0
  · exact shed32_good A c l w hS hz
  · have K := hide (error57 A c l w hS)
    have gz : (errH l != 0) = true := by simpa using hz
    unfold ShedE
    rw [if_neg hz, if_neg hz, if_neg hz]
    generalize errH l = z at K gz ⊢
    clear hS hz
    go_enter Try.func32, Try.ntmps32
    go_wp2_with fail
    refine K.out.mono ?_
    rintro e w1 ⟨rfl, hb⟩
    go_wp2
    exact bodyPost_ret (v := .tuple #[.slice none 0 0, .int .i64 0, .int .i64 0, .int .i64 z]) (by simp [results, Try.results32, go_sem]) rfl ⟨none, 0, rfl, Sl.nil (by decide), hb⟩
end Go.Proofs.Ytbkokljelopcnaa
