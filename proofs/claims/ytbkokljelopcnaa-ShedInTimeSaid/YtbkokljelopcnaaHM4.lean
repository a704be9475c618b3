/-
  shed: a choice, what it leaves out, what it keeps.
  shed: comparing.
  shed: the order of two choices.
-/
import Derived.Test.YtbkokljelopcnaaHM3
import Derived.Deep.RegionHeld3
import Derived.Deep.MidRow
namespace Go.Proofs.Ytbkokljelopcnaa
open Go.RowKit Go.Mine Go.Mine.Q
attribute [local go_sem] Oper.semAt_some
/-- whether the m-th choice keeps the i-th job -/
def bt (m i : Nat) : Bool := decide (m / 2 ^ i % 2 = 1)
def chA (m : Nat) : Array Value := #[.bool (bt m 0), .bool (bt m 1), .bool (bt m 2), .bool (bt m 3), .bool (bt m 4), .bool (bt m 5), .bool (bt m 6), .bool (bt m 7), .bool (bt m 8), .bool (bt m 9)]
def chV (m : Nat) : Value := .agg (chA m)
theorem chA_at (m : Nat) : ∀ {i : Nat}, i < 10 → (chA m)[i]? = some (.bool (bt m i))
  | 0, _ => rfl | 1, _ => rfl | 2, _ => rfl | 3, _ => rfl | 4, _ => rfl | 5, _ => rfl | 6, _ => rfl | 7, _ => rfl | 8, _ => rfl | 9, _ => rfl
  | n + 10, h => by omega
theorem outM_snoc (x : Jb) : ∀ (l : List Jb) (m : Nat), outM (l ++ [x]) m = outM l m ++ (if bt m l.length = true then [] else [x])
  | [], m => by
    show (if m % 2 = 1 then _ else _) = _
    simp [outM, bt]
  | y :: l, m => by
    have ih := outM_snoc x l (m / 2)
    unfold bt at ih ⊢
    rw [Nat.div_div_eq_div_mul, ← Nat.pow_succ'] at ih
    show (if m % 2 = 1 then outM (l ++ [x]) (m / 2) else y :: outM (l ++ [x]) (m / 2)) = (if m % 2 = 1 then outM l (m / 2) else y :: outM l (m / 2)) ++ _
    rw [ih]
    split <;> simp
theorem nosM_snoc {l : List Jb} {i : Nat} {x : Jb} (hx : l[i]? = some x) (m : Nat) : nosM (l.take (i + 1)) m = nosM (l.take i) m ++ (if bt m i = true then [x.no] else []) := by
  have hi := (List.getElem?_eq_some_iff.1 hx).1
  unfold nosM
  rw [take_of_get hx, selM_snoc, List.map_append, List.length_take, Nat.min_eq_left (Nat.le_of_lt hi)]
  unfold bt
  by_cases h : m / 2 ^ i % 2 = 1
  · rw [if_pos h, if_pos (decide_eq_true h)]; rfl
  · rw [if_neg h, if_neg (by simpa using h)]; rfl
theorem blk_grown {w W : World} {b : Nat} {ty : TypeId} {cs : Array Value} {row : Option Nat} (h : Blk w b ty cs) (hg : w.grownBy W row) (hn : row ≠ some b) : Blk W b ty cs :=
  ⟨Nat.lt_of_lt_of_le h.lt hg.size, (hg.block b h.lt (fun e => hn e.symm)).trans h.at_⟩
/-- words and alternatives left out so far -/
def lostM (l : List Jb) (m : Nat) : Int × Int := (lostW (outM l m), lostA (outM l m))
theorem lostM_snoc {l : List Jb} {i : Nat} {x : Jb} (hx : l[i]? = some x) (m : Nat) : lostM (l.take (i + 1)) m = (if bt m i = true then lostM (l.take i) m else if x.alt = true then ((lostM (l.take i) m).1, (lostM (l.take i) m).2 + 1) else ((lostM (l.take i) m).1 + 1, (lostM (l.take i) m).2)) := by
  have hi := (List.getElem?_eq_some_iff.1 hx).1
  unfold lostM
  rw [take_of_get hx, outM_snoc, List.length_take, Nat.min_eq_left (Nat.le_of_lt hi)]
  by_cases h : bt m i = true
  · rw [if_pos h, if_pos h, List.append_nil]
  · rw [if_neg h, if_neg h]
    by_cases ha : x.alt = true
    · rw [if_pos ha]; unfold lostW lostA; rw [sumF_append, sumF_append]; simp [sumF, ha]
    · rw [if_neg ha]; unfold lostW lostA; rw [sumF_append, sumF_append]; simp [sumF, ha]
theorem lostM_bound (l : List Jb) (m : Nat) : 0 ≤ (lostM l m).1 ∧ (lostM l m).1 ≤ l.length ∧ 0 ≤ (lostM l m).2 ∧ (lostM l m).2 ≤ l.length := by
  have h1 := lost_nonneg (outM l m)
  have h2 := lost_len (outM l m)
  have h3 := selM_out l m
  unfold lostM
  simp only
  omega
set_option maxRecDepth 100000 in
set_option maxHeartbeats 8000000 in
theorem lost55 (A : Option Addr) (c : Nat) (l : List Jb) (m : Nat) (w : World) (hS : Sl jbC 5 w A c l) (hl : l.length ≤ 10) :
    Calls Try.prog 55 #[.slice A l.length c, chV m] w fun e w' => e = .returned (.tuple #[.int .i64 (lostM l m).1, .int .i64 (lostM l m).2]) ∧ Below w.heap.size w w' := by
  have hlc := hS.le
  have hc := hS.max
  have HS := hide hS
  have HX0 := hide (Blk.new w (chA m) 80)
  have HB0 := hide (kalloc (Below.refl w.heap.size w) (.cells (chA m) 80))
  clear hS
  unfold chV
  simp only [chA] at HX0 HB0 ⊢
  go_enter Try.func55, Try.ntmps55
  go_wp2
  go_loopw [4, 5, 10] (fun v4 v5 v10 wr => ∃ (k : Nat) (u v : Int), k ≤ l.length ∧ v10 = .int .i64 k ∧ v4 = .int .i64 u ∧ v5 = .int .i64 v ∧ Hid (lostM (l.take k) m = (u, v)) ∧ Hid (Blk wr w.heap.size 80 (chA m)) ∧ Hid (Below w.heap.size w wr)) (fun _ _ i _ => l.length - (nI i).toNat)
  case atStart => exact ⟨0, 0, 0, Nat.zero_le _, rfl, rfl, rfl, rfl, HX0, HB0⟩
  case round =>
    clear HX0 HB0
    obtain ⟨k, u, v, hk, rfl, rfl, rfl, HQ, HX, HB⟩ := hrel
    by_cases hlt : k < l.length
    · obtain ⟨x, b, off, hx, _, rfl, hbw, d0, d1, d2, d3, d4⟩ := Sl.jb_at (HS.out.bel HB.out) hlt
      have kz : (k : Int) < (l.length : Int) := by omega
      have kz10 : (k : Int) < 10 := by omega
      have hbd := lostM_bound (l.take k) m
      rw [HQ.out] at hbd
      have htl : (l.take k).length ≤ 10 := Nat.le_trans (List.length_take_le' _ _) hl
      have hwu : IntKind.i64.wrap (u + 1) = u + 1 := by rw [IntKind.wrap_i64]; simp only at hbd; omega
      have hwv : IntKind.i64.wrap (v + 1) = v + 1 := by rw [IntKind.wrap_i64]; simp only at hbd; omega
      have hbx := HX.out.lt
      have p0 := HX.out.cell k (chA_at m (show k < 10 by omega))
      have hsn := lostM_snoc hx m
      rw [HQ.out] at hsn
      have HXn := hide (HX.out.alloc (.cells (jbC x).toArray 39))
      have HBn := hide (kalloc HB.out (.cells (jbC x).toArray 39))
      simp only [jbC] at HXn HBn
      generalize bt m k = b0 at p0 hsn
      generalize hal : x.alt = al at *
      clear hbd htl HQ hx
      cases b0 <;> cases al
      all_goals
        simp only [Bool.false_eq_true, if_false, if_true] at hsn
        have H := hide hsn
        clear hsn HX HB
        go_wp2
        go_roundw
        case rel => exact ⟨k + 1, _, _, by omega, by go_num, rfl, rfl, H, HXn, HBn⟩
        case measure => simp [nI]; omega
    · have hq := HQ.out
      rw [List.take_of_length_le (by omega)] at hq
      have H := hide hq
      clear hq HQ
      go_wp2
      exact bodyPost_ret (v := .tuple #[.int .i64 u, .int .i64 v]) (by simp [results, Try.results55, go_sem]) rfl ⟨by rw [H.out], HB.out⟩
set_option maxRecDepth 100000 in
set_option maxHeartbeats 8000000 in
theorem numbers56 (A : Option Addr) (c : Nat) (l : List Jb) (m : Nat) (w : World) (hS : Sl jbC 5 w A c l) (hl : l.length ≤ 10) :
    Calls Try.prog 56 #[.slice A l.length c, chV m] w fun e w' => ∃ D d, e = .returned (.slice D (nosM l m).length d) ∧ Sl ic 1 w' D d (nosM l m) ∧ Below w.heap.size w w' := by
  have hlc := hS.le
  have hc := hS.max
  have HS := hide hS
  have HX0 := hide (Blk.new w (chA m) 80)
  have HB0 := hide (kalloc (Below.refl w.heap.size w) (.cells (chA m) 80))
  obtain ⟨i0, hi, hz0, hz1, hz2⟩ := info_parts Try_info3
  have HI := hide hi
  clear hS hi
  unfold chV
  simp only [chA] at HX0 HB0 ⊢
  go_enter Try.func56, Try.ntmps56
  go_wp2
  go_loopw [4, 9] (fun v4 v9 wr => ∃ (k : Nat), k ≤ l.length ∧ v9 = .int .i64 k ∧ Hid (OwnL ic 1 3 wr (w.heap.size + 1) v4 (nosM (l.take k) m)) ∧ Hid (Blk wr w.heap.size 80 (chA m)) ∧ Hid (Below w.heap.size w wr)) (fun _ i _ => l.length - (nI i).toNat)
  case atStart => exact ⟨0, Nat.zero_le _, rfl, by rw [List.take_zero]; exact OwnL.nil _ _ _ _ _, HX0, HB0⟩
  case round =>
    clear HX0 HB0
    obtain ⟨k, hk, rfl, HO, HX, HB⟩ := hrel
    by_cases hlt : k < l.length
    · obtain ⟨x, b, off, hx, _, rfl, hbw, d0, d1, d2, d3, d4⟩ := Sl.jb_at (HS.out.bel HB.out) hlt
      have kz : (k : Int) < (l.length : Int) := by omega
      have kz10 : (k : Int) < 10 := by omega
      have hbx := HX.out.lt
      have p0 := HX.out.cell k (chA_at m (show k < 10 by omega))
      have hsn := nosM_snoc hx m
      have hln := nosM_len (l.take k) m
      rw [List.length_take, Nat.min_eq_left hk] at hln
      have HXn := hide (HX.out.alloc (.cells (jbC x).toArray 39))
      have HBn := hide (kalloc HB.out (.cells (jbC x).toArray 39))
      have HOn := hide (HO.out.alloc (.cells (jbC x).toArray 39))
      simp only [jbC] at HXn HBn HOn
      generalize bt m k = b0 at p0 hsn
      generalize nosM (l.take k) m = k0 at *
      clear hx
      cases b0
      · simp only [Bool.false_eq_true, if_false, List.append_nil] at hsn
        have HSN := hide hsn
        clear hsn HX HB HO
        go_wp2
        go_roundw
        case rel => exact ⟨k + 1, by omega, by go_num, by rw [HSN.out]; exact HOn.out, HXn, HBn⟩
        case measure => simp [nI]; omega
      · simp only [if_true] at hsn
        have HSN := hide hsn
        clear hsn HX HB HO
        go_wp2_with (at_builtin; refine wpList_append rfl (.tmp 17) (.tmp 20) 49 rfl rfl rfl (run_extend (f := ic) (base := w.heap.size + 1) (l1 := k0) (l2 := [x.no]) Try.underlying49 HI.out hz0 hz1 hz2 rfl (by decide) (HOn.out.alloc _) (Sl.one (Blk.new' (by simp)) rfl rfl (by decide) (by decide)) (ic_onel _) ?_ ?_ ?_) ?_)
        · simp only [List.length_singleton]; unfold maxLen; omega
        · simp only [List.length_singleton]; omega
        · simp; omega
        · intro v9 w9 hO9 hg9 hat9
          rw [← HSN.out] at hO9
          have HO9 := hide hO9
          have HB9 : Hid (Below w.heap.size w w9) := hide (Below.grown (kalloc HBn.out _) hg9 (by have := HBn.out.size; simp at this; simp; omega) (fun g hg => Nat.le_of_succ_le (HOn.out.blk hg).1))
          have HX9 : Hid (Blk w9 w.heap.size 80 (chA m)) := hide (blk_grown (HXn.out.alloc _) hg9 (fun hb => by have := (HOn.out.blk hb).1; omega))
          clear hO9 hg9 hat9 d0 d1 d2 d3 d4 HOn HBn HXn p0
          go_wp2
          go_roundw
          case rel => exact ⟨k + 1, by omega, by go_num, HO9, HX9, HB9⟩
          case measure => simp [nI]; omega
    · have ho := HO.out
      rw [List.take_of_length_le (by omega)] at ho
      obtain ⟨D, d, rfl, hS2⟩ := ho.sl
      have HS2 := hide hS2
      clear ho HO hS2
      go_wp2
      go_ret
      exact ⟨D, d, rfl, HS2.out, HB.out⟩
end Go.Proofs.Ytbkokljelopcnaa
namespace Go.Proofs.Ytbkokljelopcnaa
open Go.RowKit Go.Mine Go.Mine.Q
attribute [local go_sem] Oper.semAt_some
set_option maxHeartbeats 4000000 in
theorem eq80 (d : Nat) (a0 a1 a2 a3 a4 a5 a6 a7 a8 a9 b0 b1 b2 b3 b4 b5 b6 b7 b8 b9 : Bool) (w : World) : (Op.equalIn (d + 2) 80 (.agg #[.bool a0, .bool a1, .bool a2, .bool a3, .bool a4, .bool a5, .bool a6, .bool a7, .bool a8, .bool a9]) (.agg #[.bool b0, .bool b1, .bool b2, .bool b3, .bool b4, .bool b5, .bool b6, .bool b7, .bool b8, .bool b9])).run Try.prog w = .ok (a0 == b0 && (a1 == b1 && (a2 == b2 && (a3 == b3 && (a4 == b4 && (a5 == b5 && (a6 == b6 && (a7 == b7 && (a8 == b8 && a9 == b9))))))))) w := by
  simp only [Op.equalIn, Sem.run_bind, run_underlying Try.underlying80, Result.andThen_ok, Try.sizeOf4]
  simp [List.range', part, go_sem]
  by_cases h0 : a0 = b0
  case neg => simp [h0]
  by_cases h1 : a1 = b1
  case neg => simp [h0, h1]
  by_cases h2 : a2 = b2
  case neg => simp [h0, h1, h2]
  by_cases h3 : a3 = b3
  case neg => simp [h0, h1, h2, h3]
  by_cases h4 : a4 = b4
  case neg => simp [h0, h1, h2, h3, h4]
  by_cases h5 : a5 = b5
  case neg => simp [h0, h1, h2, h3, h4, h5]
  by_cases h6 : a6 = b6
  case neg => simp [h0, h1, h2, h3, h4, h5, h6]
  by_cases h7 : a7 = b7
  case neg => simp [h0, h1, h2, h3, h4, h5, h6, h7]
  by_cases h8 : a8 = b8
  case neg => simp [h0, h1, h2, h3, h4, h5, h6, h7, h8]
  by_cases h9 : a9 = b9
  case neg => simp [h0, h1, h2, h3, h4, h5, h6, h7, h8, h9]
  simp [h0, h1, h2, h3, h4, h5, h6, h7, h8, h9]
def cmpL : List Int → List Int → Int
  | [], b => if (0 : Int) < (b.length : Int) then -1 else 0
  | _ :: _, [] => 1
  | x :: a, y :: b => if cmpI x y ≠ 0 then cmpI x y else cmpL a b
theorem cmpI_neg (x y : Int) : (cmpI x y < 0 ↔ x < y) ∧ (cmpI x y = 0 ↔ x = y) := by
  unfold cmpI
  by_cases h1 : x < y
  · rw [if_pos h1]; omega
  · rw [if_neg h1]
    by_cases h2 : y < x
    · rw [if_pos h2]; omega
    · rw [if_neg h2]; omega
theorem cmpL_neg : ∀ a b : List Int, cmpL a b < 0 ↔ lexL a b = true
  | [], b => by
    rw [lexL_nil]
    show (if (0 : Int) < (b.length : Int) then (-1 : Int) else 0) < 0 ↔ _
    by_cases h : (0 : Int) < (b.length : Int)
    · rw [if_pos h]; exact ⟨fun _ => decide_eq_true h, fun _ => by decide⟩
    · rw [if_neg h]; exact ⟨fun h' => absurd h' (by decide), fun h' => absurd (of_decide_eq_true h') h⟩
  | x :: a, [] => by
    show (1 : Int) < 0 ↔ false = true
    simp
  | x :: a, y :: b => by
    have h := cmpI_neg x y
    show (if cmpI x y ≠ 0 then cmpI x y else cmpL a b) < 0 ↔ (if x = y then lexL a b else decide (x < y)) = true
    by_cases hxy : x = y
    · rw [if_neg (by simpa using h.2.2 hxy), if_pos hxy]; exact cmpL_neg a b
    · rw [if_pos (fun e => hxy (h.2.1 e)), if_neg hxy, h.1, decide_eq_true_eq]
theorem cmpL_nil (b : List Int) : cmpL [] b = if (0 : Int) < (b.length : Int) then -1 else 0 := rfl
theorem cmpL_none (x : Int) (a : List Int) : cmpL (x :: a) [] = 1 := rfl
theorem cmpL_cons (x y : Int) (a b : List Int) : cmpL (x :: a) (y :: b) = if cmpI x y ≠ 0 then cmpI x y else cmpL a b := rfl
set_option maxHeartbeats 4000000 in
theorem compare76 (A B : Option Addr) (c d : Nat) (a b : List Int) (w : World) (hA : Sl ic 1 w A c a) (hB : Sl ic 1 w B d b) :
    Calls Try.prog 76 #[.slice A a.length c, .slice B b.length d] w fun e w' => e = .returned (.int .i64 (cmpL a b)) ∧ w = w' := by
  have hla := hA.le
  have hca := hA.max
  have hlb := hB.le
  have hcb := hB.max
  have KC := hide (fun x y W => compare75 x y W)
  have HA := hide hA
  have HB := hide hB
  obtain ⟨R, hR⟩ : ∃ R, cmpL a b = R := ⟨_, rfl⟩
  have HQ0 : Hid (R = cmpL (a.drop 0) (b.drop 0)) := hide hR.symm
  rw [hR]
  clear hA hB hR
  go_enter Try.func76, Try.ntmps76
  go_wp2
  go_loopw [11] (fun v11 wr => ∃ (k : Nat), k ≤ a.length ∧ k ≤ b.length ∧ v11 = .int .i64 k ∧ Hid (R = cmpL (a.drop k) (b.drop k)) ∧ wr = w) (fun i _ => a.length - (nI i).toNat)
  case atStart => exact ⟨0, Nat.zero_le _, Nat.zero_le _, rfl, HQ0, rfl⟩
  case round =>
    clear HQ0
    obtain ⟨k, hka, hkb, rfl, HQ, rfl⟩ := hrel
    by_cases hlt : k < a.length
    · obtain ⟨x, ba, oa, hx, hdx, rfl, hbwa, c0⟩ := Sl.ic_at HA.out hlt
      have hq := HQ.out
      rw [hdx] at hq
      have kz : (k : Int) < (a.length : Int) := by omega
      by_cases hltb : k < b.length
      · obtain ⟨y, bb, ob, hy, hdy, rfl, hbwb, e0⟩ := Sl.ic_at HB.out hltb
        rw [hdy, cmpL_cons] at hq
        have kzb : (k : Int) < (b.length : Int) := by omega
        have KC1 := hide (KC.out x y wr)
        generalize cmpI x y = r at *
        clear hdx hdy hx hy HQ
        by_cases hr : r = 0
        · subst hr
          rw [if_neg (by simp)] at hq
          have H := hide hq
          clear hq
          go_wp2_with fail
          refine KC1.out.mono ?_
          rintro e w' ⟨rfl, rfl⟩
          go_wp2
          go_roundw
          case rel => exact ⟨k + 1, by omega, by omega, by go_num, H, trivial⟩
          case measure => simp [nI]; omega
        · rw [if_pos hr] at hq
          have hrb : (r != 0) = true := by simpa using hr
          have H := hide hq
          clear hq hr
          go_wp2_with fail
          refine KC1.out.mono ?_
          rintro e w' ⟨rfl, rfl⟩
          go_wp2
          go_ret
          exact ⟨ret_int H.out.symm, rfl⟩
      · obtain rfl : k = b.length := by omega
        rw [List.drop_length, cmpL_none] at hq
        have H := hide hq
        clear hq hdx hx HQ
        go_wp2
        go_ret
        exact ⟨ret_int H.out.symm, rfl⟩
    · obtain rfl : k = a.length := by omega
      have hq := HQ.out
      rw [List.drop_length, cmpL_nil, List.length_drop] at hq
      clear HQ
      by_cases hlt2 : a.length < b.length
      · have z : (a.length : Int) < (b.length : Int) := by omega
        rw [if_pos (by omega)] at hq
        have H := hide hq
        clear hq
        go_wp2
        go_ret
        exact ⟨ret_int H.out.symm, rfl⟩
      · have z : ¬ (a.length : Int) < (b.length : Int) := by omega
        rw [if_neg (by omega)] at hq
        have H := hide hq
        clear hq
        go_wp2
        go_ret
        exact ⟨ret_int H.out.symm, rfl⟩
def or3 (x y z : Int) : Int := if x ≠ 0 then x else if y ≠ 0 then y else z
set_option maxHeartbeats 2000000 in
theorem or74_3 (A : Option Addr) (c : Nat) (x y z : Int) (w : World) (hS : Sl ic 1 w A c [x, y, z]) : Calls Try.prog 74 #[.slice A 3 c] w fun e w' => e = .returned (.int .i64 (or3 x y z)) ∧ w = w' := by
  have hc := hS.max
  have hlc := hS.le
  have HE : ∀ ls : List Int, ls = [x, y, z] → Hid (or3 x y z = (ls.find? (fun z => z != 0)).getD 0) := fun ls h => hide (by
    subst h
    unfold or3
    by_cases h1 : x = 0
    · subst h1
      by_cases h2 : y = 0
      · subst h2
        by_cases h3 : z = 0
        · subst h3; rfl
        · simp [h3]
      · simp [h2]
    · simp [h1])
  obtain ⟨ls, hls⟩ : ∃ ls, ls = [x, y, z] := ⟨_, rfl⟩
  have HQ := HE ls hls
  have hl2 : ls.length = 3 := by rw [hls]; rfl
  rw [← hls] at hS hlc
  generalize or3 x y z = R at HQ ⊢
  have HL2 := hide hl2
  rw [hl2] at hlc
  clear HE hls hl2
  go_enter Try.func74, Try.ntmps74
  go_wp2
  go_loop [5, 8] (fun _ i => ∃ k : Nat, k ≤ 3 ∧ i = .int .i64 k ∧ Hid (R = ((ls.drop k).find? (fun z => z != 0)).getD 0)) (fun _ i => 3 - (nI i).toNat)
  case atStart => exact ⟨0, by omega, rfl, HQ⟩
  case round =>
    obtain ⟨k, hk, rfl, HR⟩ := hrel
    by_cases hlt : k < 3
    · obtain ⟨z, b, off, hz, hdr, rfl, hbw, c0⟩ := Sl.ic_at hS (show k < ls.length by rw [HL2.out]; exact hlt)
      have hq := HR.out
      rw [hdr, List.find?_cons] at hq
      have kz : (k : Int) < 3 := by omega
      clear hz hdr HR HQ hS
      cases h1 : (z != 0)
      · rw [h1] at hq
        have H := hide hq
        clear hq
        go_wp2
        go_round
        case rel => exact ⟨k + 1, by omega, by go_num, H⟩
        case measure => simp [nI]; omega
      · rw [h1] at hq
        have H := hide hq
        clear hq
        go_wp2
        go_ret
        exact ⟨ret_int H.out.symm, rfl⟩
    · have hq := HR.out
      rw [List.drop_of_length_le (by rw [HL2.out]; omega)] at hq
      have H := hide hq
      clear hq HR HQ
      go_wp2
      go_ret
      exact ⟨ret_int H.out.symm, rfl⟩
end Go.Proofs.Ytbkokljelopcnaa
namespace Go.Proofs.Ytbkokljelopcnaa
open Go.RowKit Go.Mine Go.Mine.Q
attribute [local go_sem] Oper.semAt_some
/-- whether two choices keep the same ones -/
def samM (m k : Nat) : Bool := bt m 0 == bt k 0 && (bt m 1 == bt k 1 && (bt m 2 == bt k 2 && (bt m 3 == bt k 3 && (bt m 4 == bt k 4 && (bt m 5 == bt k 5 && (bt m 6 == bt k 6 && (bt m 7 == bt k 7 && (bt m 8 == bt k 8 && bt m 9 == bt k 9))))))))
theorem samM_at {m k : Nat} (h : samM m k = true) : ∀ i, i < 10 → bt m i = bt k i := by
  unfold samM at h
  simp only [Bool.and_eq_true, beq_iff_eq] at h
  obtain ⟨h0, h1, h2, h3, h4, h5, h6, h7, h8, h9⟩ := h
  intro i hi
  match i, hi with
  | 0, _ => exact h0
  | 1, _ => exact h1
  | 2, _ => exact h2
  | 3, _ => exact h3
  | 4, _ => exact h4
  | 5, _ => exact h5
  | 6, _ => exact h6
  | 7, _ => exact h7
  | 8, _ => exact h8
  | 9, _ => exact h9
  | n + 10, h => exact absurd h (by omega)
theorem bt_half (m i : Nat) : bt (m / 2) i = bt m (i + 1) := by
  unfold bt
  rw [Nat.div_div_eq_div_mul, ← Nat.pow_succ']
theorem sel_same : ∀ (l : List Jb) (m k : Nat), (∀ i, i < l.length → bt m i = bt k i) → selM l m = selM l k ∧ outM l m = outM l k
  | [], _, _, _ => ⟨rfl, rfl⟩
  | x :: l, m, k, h => by
    obtain ⟨h1, h2⟩ := sel_same l (m / 2) (k / 2) (fun i hi => by rw [bt_half, bt_half]; exact h (i + 1) (by simpa using hi))
    have h0 := h 0 (by simp)
    have e : (m % 2 = 1) = (k % 2 = 1) := by
      unfold bt at h0
      simp only [Nat.pow_zero, Nat.div_one, decide_eq_decide] at h0
      exact propext h0
    unfold selM outM
    rw [h1, h2]
    by_cases hk : k % 2 = 1
    · have hm : m % 2 = 1 := by rw [e]; exact hk
      rw [if_pos hk, if_pos hk, if_pos hm, if_pos hm]
      exact ⟨rfl, rfl⟩
    · have hm : ¬ m % 2 = 1 := by rw [e]; exact hk
      rw [if_neg hk, if_neg hk, if_neg hm, if_neg hm]
      exact ⟨rfl, rfl⟩
/-- what the order of two choices says -/
def ordV (l : List Jb) (m k : Nat) : Int := if samM m k = true then 0 else or3 (cmpI (lostM l m).1 (lostM l k).1) (cmpI (lostM l m).2 (lostM l k).2) (cmpL (nosM l m) (nosM l k))
theorem ordV_neg {l : List Jb} (hl : l.length ≤ 10) (m k : Nat) : ordV l m k < 0 ↔ lessC (chM l m) (chM l k) = true := by
  unfold ordV
  by_cases h : samM m k = true
  · rw [if_pos h]
    obtain ⟨h1, h2⟩ := sel_same l m k (fun i hi => samM_at h i (by omega))
    have : chM l m = chM l k := by unfold chM; rw [h1, h2]
    rw [this, lessC_irr]
    simp
  · rw [if_neg h, lessC_iff]
    unfold or3 chM lostM nosM
    simp only
    have c1 := cmpI_neg (lostW (outM l m)) (lostW (outM l k))
    have c2 := cmpI_neg (lostA (outM l m)) (lostA (outM l k))
    have c3 := cmpL_neg ((selM l m).map (·.no)) ((selM l k).map (·.no))
    by_cases h1 : cmpI (lostW (outM l m)) (lostW (outM l k)) = 0
    · rw [if_neg (by simpa using h1)]
      have e1 := c1.2.1 h1
      by_cases h2 : cmpI (lostA (outM l m)) (lostA (outM l k)) = 0
      · rw [if_neg (by simpa using h2)]
        have e2 := c2.2.1 h2
        rw [c3]
        constructor
        · intro h; exact .inr ⟨e1, .inr ⟨e2, h⟩⟩
        · rintro (h | ⟨_, h | ⟨_, h⟩⟩)
          · omega
          · omega
          · exact h
      · rw [if_pos h2, c2.1]
        have n2 : lostA (outM l m) ≠ lostA (outM l k) := fun e => h2 (c2.2.2 e)
        constructor
        · intro h; exact .inr ⟨e1, .inl h⟩
        · rintro (h | ⟨_, h | ⟨h, _⟩⟩)
          · omega
          · exact h
          · exact absurd h n2
    · rw [if_pos h1, c1.1]
      have n1 : lostW (outM l m) ≠ lostW (outM l k) := fun e => h1 (c1.2.2 e)
      constructor
      · intro h; exact .inl h
      · rintro (h | ⟨h, _⟩)
        · exact h
        · exact absurd h n1
theorem bsl_blk3 (x y z : Int) (w : World) : Sl ic 1 (w.alloc (.cells #[.int .i64 x, .int .i64 y, .int .i64 z] 3)) (some ⟨w.heap.size, 0, none⟩) 3 [x, y, z] :=
  ⟨by simp, by decide, by intro z hz; rfl, fun _ => ⟨w.heap.size, 0, rfl, by simp, fun i v hv => by
    have h := (Blk.new w #[.int .i64 x, .int .i64 y, .int .i64 z] 3).at_
    simp only [World.cell?, h, Nat.zero_add]
    simpa [ic] using hv⟩⟩
def chL (m : Nat) : List Value := [.bool (bt m 0), .bool (bt m 1), .bool (bt m 2), .bool (bt m 3), .bool (bt m 4), .bool (bt m 5), .bool (bt m 6), .bool (bt m 7), .bool (bt m 8), .bool (bt m 9)]
theorem blk_range {w : World} {p m : Nat} (h : Blk w p 80 (chA m)) : w.rangeAt p 0 (chL m) := fun j v hv => by
  rw [Nat.zero_add]
  exact h.cell j (by rw [show chA m = (chL m).toArray from rfl]; simpa using hv)
/-- two boxed choices, held -/
abbrev TwoAt (w : World) (p q m k : Nat) (W : World) : Prop := Below w.heap.size w W ∧ W.rangeAt p 0 (chL m) ∧ W.rangeAt q 0 (chL k)
theorem range_bel {W W' : World} {p : Nat} {cs : List Value} (h : W.rangeAt p 0 cs) (hb : Below W.heap.size W W') : W'.rangeAt p 0 cs := fun j v hv => by
  have hc := h j v hv
  have hlt : p < W.heap.size := by
    by_cases hh : p < W.heap.size
    · exact hh
    · exfalso
      unfold World.cell? at hc
      rw [Array.getElem?_eq_none (by simpa using hh)] at hc
      simp at hc
  unfold World.cell? at hc ⊢
  rw [hb.block _ hlt]; exact hc
theorem TwoAt.bel {w : World} {p q m k : Nat} {W W' : World} (h : TwoAt w p q m k W) (hb : Below W.heap.size W W') : TwoAt w p q m k W' :=
  ⟨kcall h.1 hb, range_bel h.2.1 hb, range_bel h.2.2 hb⟩
theorem TwoAt.of {w W : World} {p q m k : Nat} (hb : Below w.heap.size w W) (hp : Blk W p 80 (chA m)) (hq : Blk W q 80 (chA k)) : TwoAt w p q m k W := ⟨hb, blk_range hp, blk_range hq⟩
set_option maxRecDepth 100000 in
set_option maxHeartbeats 8000000 in
theorem order51 (A : Option Addr) (c : Nat) (l : List Jb) (m k : Nat) (w : World) (hS : Sl jbC 5 w A c l) (hl : l.length ≤ 10) :
    Calls Try.prog 51 #[.slice A l.length c, chV m, chV k] w fun e w' => e = .returned (.int .i64 (ordV l m k)) ∧ Below w.heap.size w w' := by
  have HP1 := hide (Blk.new w (chA m) 80)
  have HQ1 := hide (Blk.new1 w (.cells (chA m) 80) (chA k) 80)
  have HP2 := hide (HP1.out.alloc (.cells (chA k) 80))
  have HB2 := hide (kalloc (kalloc (Below.refl w.heap.size w) (.cells (chA m) 80)) (.cells (chA k) 80))
  have KL := hide (fun (m : Nat) W (h : Below w.heap.size w W) => lost55 A c l m W (hS.bel h) hl)
  have KN := hide (fun (m : Nat) W (h : Below w.heap.size w W) => numbers56 A c l m W (hS.bel h) hl)
  have HSM := hide (show ordV l m k = if samM m k = true then 0 else or3 (cmpI (lostM l m).1 (lostM l k).1) (cmpI (lostM l m).2 (lostM l k).2) (cmpL (nosM l m) (nosM l k)) from rfl)
  have hEQ : ∀ d W, (Op.equalIn (d + 2) 80 (chV m) (chV k)).run Try.prog W = .ok (samM m k) W := fun d W => eq80 d _ _ _ _ _ _ _ _ _ _ _ _ _ _ _ _ _ _ _ _ W
  clear hS
  unfold chV at hEQ KL ⊢
  simp only [chA] at HP2 HQ1 HB2 hEQ KL ⊢
  generalize hsm : samM m k = sm at *
  clear hsm HP1
  cases sm
  · rw [if_neg (by simp)] at HSM
    have KL1 := hide (KL.out m _ HB2.out)
    go_enter Try.func51, Try.ntmps51
    go_wp2_with fail
    refine KL1.out.mono ?_
    rintro e w1 ⟨rfl, hb1⟩
    have HB3 := hide (kcall HB2.out hb1)
    have HP3 := hide (HP2.out.bel hb1)
    have HQ3 := hide (HQ1.out.bel hb1)
    have q1l : w.heap.size + 1 < w1.heap.size := HQ3.out.lt
    have q0 := HQ3.out.cell (v := .bool (bt k 0)) 0 rfl
    have q1 := HQ3.out.cell (v := .bool (bt k 1)) 1 rfl
    have q2 := HQ3.out.cell (v := .bool (bt k 2)) 2 rfl
    have q3 := HQ3.out.cell (v := .bool (bt k 3)) 3 rfl
    have q4 := HQ3.out.cell (v := .bool (bt k 4)) 4 rfl
    have q5 := HQ3.out.cell (v := .bool (bt k 5)) 5 rfl
    have q6 := HQ3.out.cell (v := .bool (bt k 6)) 6 rfl
    have q7 := HQ3.out.cell (v := .bool (bt k 7)) 7 rfl
    have q8 := HQ3.out.cell (v := .bool (bt k 8)) 8 rfl
    have q9 := HQ3.out.cell (v := .bool (bt k 9)) 9 rfl
    have KL2 := hide (KL.out k w1 HB3.out)
    clear hb1 HP2 HQ1 HB2 KL1
    go_wp2_with fail
    refine KL2.out.mono ?_
    rintro e w2 ⟨rfl, hb2⟩
    have HB4 := hide (kcall HB3.out hb2)
    have HT : Hid (TwoAt w w.heap.size (w.heap.size + 1) m k w2) := hide (TwoAt.of HB4.out (HP3.out.bel hb2) (HQ3.out.bel hb2))
    have HT' : Hid (TwoAt w w.heap.size (w.heap.size + 1) m k w2.drew) := hide (TwoAt.of HB4.out.drew (HP3.out.bel hb2).drew (HQ3.out.bel hb2).drew)
    have KM := hide (fun W (h : TwoAt w w.heap.size (w.heap.size + 1) m k W) => KN.out m W h.1)
    have KK := hide (fun W (h : TwoAt w w.heap.size (w.heap.size + 1) m k W) => KN.out k W h.1)
    have KC1 := hide (fun W => (compare75 (lostM l m).1 (lostM l k).1 W).mono fun e w' (h : e = .returned (.int .i64 (cmpI (lostM l m).1 (lostM l k).1)) ∧ W = w') => And.intro h.1 h.2.symm)
    have KC2 := hide (fun W => (compare75 (lostM l m).2 (lostM l k).2 W).mono fun e w' (h : e = .returned (.int .i64 (cmpI (lostM l m).2 (lostM l k).2)) ∧ W = w') => And.intro h.1 h.2.symm)
    clear hb2 HB3 HP3 HQ3 KL2 KL KN HT HB4 q1l q0 q1 q2 q3 q4 q5 q6 q7 q8 q9
    generalize cmpI (lostM l m).1 (lostM l k).1 = r1 at *
    generalize cmpI (lostM l m).2 (lostM l k).2 = r2 at *
    generalize nosM l m = nm at *
    generalize nosM l k = nk at *
    have hu80 := Try.underlying80
    have hi80m : (Try.prog.info? 80).map (·.size) = some (chL m).length := by kernel_rfl
    have hi80k : (Try.prog.info? 80).map (·.size) = some (chL k).length := by kernel_rfl
    go_wp2_with fail
    refine wp_region_held_drew (S := TwoAt w w.heap.size (w.heap.size + 1) m k) (by kernel_rfl) HT'.out (fun hHeld => ?_)
    refine wpAnyH_take (i := 0) (v := ?_) rfl (by kernel_rfl) (by kernel_rfl) (by kernel_rfl) (fun _ _ _ h => h) (Or.inl ⟨by rfl, ?_⟩) (by assumption) ?_
    rotate_left
    · intro w hSw
      go_simp
      with_reducible rfl
    (try simp only [Act.put, List.setIfInBounds_toArray, List.set_cons_zero, List.set_cons_succ])
    refine wpAnyH_take (i := 1) (v := ?_) rfl (by kernel_rfl) (by kernel_rfl) (by kernel_rfl) (fun _ _ _ h => h) (Or.inl ⟨by rfl, ?_⟩) (by assumption) ?_
    rotate_left
    · intro w hSw
      go_simp
      with_reducible rfl
    (try simp only [Act.put, List.setIfInBounds_toArray, List.set_cons_zero, List.set_cons_succ])
    refine wpAnyH_take (i := 3) (v := ?_) rfl (by kernel_rfl) (by kernel_rfl) (by kernel_rfl) (fun _ _ _ h => h) (Or.inl ⟨by rfl, ?_⟩) (by assumption) ?_
    rotate_left
    · intro w hSw
      go_simp
      with_reducible rfl
    (try simp only [Act.put, List.setIfInBounds_toArray, List.set_cons_zero, List.set_cons_succ])
    refine wpAnyH_take (i := 4) (v := ?_) rfl (by kernel_rfl) (by kernel_rfl) (by kernel_rfl) (fun _ _ _ h => h) (Or.inl ⟨by rfl, ?_⟩) (by assumption) ?_
    rotate_left
    · intro w hSw
      go_simp
      with_reducible rfl
    (try simp only [Act.put, List.setIfInBounds_toArray, List.set_cons_zero, List.set_cons_succ])
    refine wpAnyH_take (i := 6) (v := ?_) rfl (by kernel_rfl) (by kernel_rfl) (by kernel_rfl) (fun _ _ _ h => h) (Or.inl ⟨by rfl, ?_⟩) (by assumption) ?_
    rotate_left
    · intro w hSw
      go_simp
      with_reducible rfl
    (try simp only [Act.put, List.setIfInBounds_toArray, List.set_cons_zero, List.set_cons_succ])
    refine wpAnyH_take (i := 7) rfl (by kernel_rfl) (by kernel_rfl) (by kernel_rfl) (fun _ _ _ h => h) (yieldsIf_load_mid (by rfl) _ _ rfl _ _ rfl _ _ (fun w h => h.2.1) hu80 rfl hi80m) (by assumption) ?_
    (try simp only [Act.put, List.setIfInBounds_toArray, List.set_cons_zero, List.set_cons_succ])
    refine wpAnyH_take (i := 9) (v := ?_) rfl (by kernel_rfl) (by kernel_rfl) (by kernel_rfl) (fun _ _ _ h => h) (Or.inl ⟨by rfl, ?_⟩) (by assumption) ?_
    rotate_left
    · intro w hSw
      go_simp
      with_reducible rfl
    (try simp only [Act.put, List.setIfInBounds_toArray, List.set_cons_zero, List.set_cons_succ])
    refine wpAnyH_take (i := 10) rfl (by kernel_rfl) (by kernel_rfl) (by kernel_rfl) (fun _ _ _ h => h) (yieldsIf_load_mid (by rfl) _ _ rfl _ _ rfl _ _ (fun w h => h.2.2) hu80 rfl hi80k) (by assumption) ?_
    (try simp only [Act.put, List.setIfInBounds_toArray, List.set_cons_zero, List.set_cons_succ])
    refine wpAnyH_ready (rs := [2]) (by kernel_rfl) (by simp) (AllReadyH.cons rfl (fun K hK => ?_) AllReadyH.nil)
    go_simp
    refine (KC1.out _).mono ?_
    rintro e w' ⟨rfl, rfl⟩
    go_wp2_with fail
    refine hK.out _ _ (by assumption) (fun hHeld => ?_)
    clear hK K
    (try simp only [Act.put, List.setIfInBounds_toArray, List.set_cons_zero, List.set_cons_succ])
    refine wpAnyH_ready (rs := [5]) (by kernel_rfl) (by simp) (AllReadyH.cons rfl (fun K hK => ?_) AllReadyH.nil)
    go_simp
    refine (KC2.out _).mono ?_
    rintro e w' ⟨rfl, rfl⟩
    go_wp2_with fail
    refine hK.out _ _ (by assumption) (fun hHeld => ?_)
    clear hK K
    (try simp only [Act.put, List.setIfInBounds_toArray, List.set_cons_zero, List.set_cons_succ])
    refine wpAnyH_ready (rs := [8]) (by kernel_rfl) (by simp) (AllReadyH.cons rfl (fun K hK => ?_) AllReadyH.nil)
    go_simp
    refine (KM.out _ (by assumption)).mono ?_
    rintro e w3 ⟨D1, d1, rfl, gS1, gb1⟩
    go_wp2_with fail
    refine hK.out _ _ (TwoAt.bel (by assumption) gb1) (fun hHeld => ?_)
    clear hK K
    (try simp only [Act.put, List.setIfInBounds_toArray, List.set_cons_zero, List.set_cons_succ])
    refine wpAnyH_ready (rs := [11]) (by kernel_rfl) (by simp) (AllReadyH.cons rfl (fun K hK => ?_) AllReadyH.nil)
    go_simp
    refine (KK.out _ (by assumption)).mono ?_
    rintro e w4 ⟨D2, d2, rfl, gS2, gb2⟩
    go_wp2_with fail
    refine hK.out _ _ (TwoAt.bel (by assumption) gb2) (fun hHeld => ?_)
    clear hK K
    (try simp only [Act.put, List.setIfInBounds_toArray, List.set_cons_zero, List.set_cons_succ])
    refine wpAnyH_ready (rs := [12]) (by kernel_rfl) (by simp) (AllReadyH.cons rfl (fun K hK => ?_) AllReadyH.nil)
    go_simp
    refine (compare76 D1 D2 d1 d2 nm nk w4 (gS1.bel gb2) gS2).mono ?_
    rintro e w' ⟨rfl, rfl⟩
    go_wp2_with fail
    refine hK.out _ _ (by assumption) (fun hHeld => ?_)
    clear hK K
    (try simp only [Act.put, List.setIfInBounds_toArray, List.set_cons_zero, List.set_cons_succ])
    refine wpAnyH_ready (rs := [13]) (by kernel_rfl) (by simp) (AllReadyH.cons rfl (fun K hK => ?_) AllReadyH.nil)
    go_simp
    refine hK.out _ _ (TwoAt.bel (by assumption) (kalloc (Below.refl _ _) _)) (fun hHeld => ?_)
    clear hK K
    (try simp only [Act.put, List.setIfInBounds_toArray, List.set_cons_zero, List.set_cons_succ])
    refine wpAnyH_ready (rs := [14]) (by kernel_rfl) (by simp) (AllReadyH.cons rfl (fun K hK => ?_) AllReadyH.nil)
    go_simp
    refine (or74_3 _ 3 r1 r2 (cmpL nm nk) _ (bsl_blk3 r1 r2 (cmpL nm nk) w4)).mono ?_
    rintro e w' ⟨rfl, rfl⟩
    go_wp2_with fail
    refine hK.out _ _ (by assumption) (fun hHeld => ?_)
    clear hK K
    (try simp only [Act.put, List.setIfInBounds_toArray, List.set_cons_zero, List.set_cons_succ])
    refine wpAnyH_take (i := 15) (oi := { dst := some 6, op := Op.assign (Operand.tmp 40), type := 3, pos := _, after := _, guard := none }) (v := ?_) rfl (by kernel_rfl) (by kernel_rfl) (by kernel_rfl) (fun _ _ _ h => h) (Or.inl ⟨by rfl, ?_⟩) (by assumption) ?_
    rotate_left
    · intro w hSw
      go_simp
      with_reducible rfl
    (try simp only [Act.put, List.setIfInBounds_toArray, List.set_cons_zero, List.set_cons_succ])
    refine wpAnyH_done (by kernel_rfl) ?_ _
    have HBE := hide (show Below w.heap.size w _ from hHeld.1)
    go_wp2
    go_ret
    refine ⟨?_, HBE.out⟩
    show Ending.returned (.int .i64 (or3 r1 r2 (cmpL nm nk))) = _
    rw [HSM.out]
  · rw [if_pos rfl] at HSM
    go_enter Try.func51, Try.ntmps51
    go_wp2
    go_ret
    exact ⟨ret_int HSM.out.symm, HB2.out⟩
end Go.Proofs.Ytbkokljelopcnaa
