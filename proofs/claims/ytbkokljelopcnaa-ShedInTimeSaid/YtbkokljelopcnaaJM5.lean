/-
  queue: Accepts of the reference.
  queue.Accepts, where jobs are right.
  queue: Accepts, both.
-/
import Derived.Test.YtbkokljelopcnaaJM1
import Derived.Test.YtbkokljelopcnaaMore
import Derived.Test.YtbkokljelopcnaaJM4
import Derived.Test.YtbkokljelopcnaaMapIns
import Derived.Maps.RangeWalk
namespace Go.Proofs.Ytbkokljelopcnaa
open Go.RowKit Go.Mine Go.Mine.Q
def accR (l : List Jb) (s : List Sx) : Bool × Int := if chk l = 0 then (acc l s, 0) else (false, chk l)
theorem done_take {s : List Sx} {k : Nat} {x : Sx} (h : s[k]? = some x) (n : Int) : doneN n (s.take (k + 1)) = doneN n (s.take k) + (if x.no = n then x.u - x.f else 0) := by
  unfold doneN
  rw [take_of_get h, sumF_append]
  simp [sumF]
theorem okS_ref (last : Int) (y : Jb) (x : Sx) : okS last (some y) x = (!decide (x.u ≤ x.f) && (!decide (x.f < y.ready) && (!decide (y.due < x.u) && decide (last ≤ x.f)))) := by
  rw [Bool.eq_iff_iff]
  simp only [okS, Bool.and_eq_true, decide_eq_true_eq, Bool.not_eq_true', decide_eq_false_iff_not]
  omega
theorem acc_bad {l : List Jb} {s : List Sx} (h : accGo l 0 s = false) : acc l s = false := by unfold acc; rw [h]; rfl
theorem madeZ (n : Nat) (w : World) (hn : n ≤ 1000) : OwnL ic 1 3 (w.alloc (.cells (madeCells (Value.int .i64 0).cells (n * 1)) 3)) w.heap.size (.slice (some ⟨w.heap.size, 0, none⟩) n n) (List.replicate n (0 : Int)) := by
  have hf : ∀ n : Nat, (List.replicate n (0 : Int)).flatMap ic = List.replicate n (Value.int .i64 0) := fun n => by
    induction n with
    | zero => rfl
    | succ n ih => rw [List.replicate_succ, List.flatMap_cons, ih, List.replicate_succ]; rfl
  have hm : (madeCells (Value.int .i64 0).cells (n * 1)).toList = List.replicate n (Value.int .i64 0) := by
    refine List.ext_getElem? fun i => ?_
    by_cases h : i < n
    · simp [madeCells, Value.cells, h, Nat.mod_one]
    · simp [madeCells, Value.cells, h]
  have hsz : (madeCells (Value.int .i64 0).cells (n * 1)).size = n := by rw [← Array.length_toList, hm]; simp
  refine ⟨⟨by rw [hf]; simp, .inr ⟨w.heap.size, n, _, by simp, Nat.le_refl _, heap_new _ _, by simp, by simp only [maxLen]; omega, by rw [hsz]; omega, ?_⟩⟩, fun _ _ => rfl⟩
  rw [hm, hf]
  simp
set_option maxRecDepth 100000 in
set_option maxHeartbeats 8000000 in
theorem accepts26_good (A : Option Addr) (c : Nat) (l : List Jb) (B : Option Addr) (d : Nat) (s : List Sx) (w : World) (hS : Sl jbC 5 w A c l) (hT0 : Sl sxC 3 w B d s) (hz : chk l = 0) (hs : s.length ≤ 1000) :
    Calls Try.prog 26 #[.slice A l.length c, .slice B s.length d] w fun e w' => e = .returned (.tuple #[.bool (acc l s), .int .i64 0]) ∧ Below w.heap.size w w' := by
  obtain ⟨hr, h64, hok⟩ := right_of hz
  have hlc := hS.le
  have hc := hS.max
  have hld := hT0.le
  have hd := hT0.max
  have K28 := hide (check28 A c l w hS)
  rw [hz] at K28
  have KI := hide (fun n W (h : Below w.heap.size w W) => index46 A c l n W (hS.bel h))
  have HJ := hide (fun n => ixJ_job l n 0)
  have HRT := hide hr
  have HOKL := hide hok
  have HS := hide hS
  have HT := hide hT0
  have HR := hide (show acc l s = (accGo l 0 s && l.all fun j => decide (doneN j.no s = j.need)) from rfl)
  generalize acc l s = RR at HR ⊢
  obtain ⟨i0, hi, hz0, hz1, hz2⟩ := info_parts Try_info3
  have hmk : ∀ w : World, (Instr.makeSlice 49 (.int .i64 (l.length : Int)) (.int .i64 (l.length : Int))).run Try.prog w = .ok (.slice (some ⟨w.heap.size, 0, none⟩) l.length l.length) (w.alloc (.cells (madeCells (Value.int .i64 0).cells (l.length * 1)) 3)) := fun w => by
    have := run_make_rowN 49 3 i0 _ Try.underlying49 hi hz0 .i64 .i64 l.length l.length (Nat.le_refl _) (by rw [hz2]; omega) (by omega) w
    rw [hz1] at this; exact this
  clear hS hT0 hr hz hi hz0 hz1 hz2 hok
  go_enter Try.func26, Try.ntmps26
  go_wp2_with fail
  refine K28.out.mono ?_
  rintro e w1 ⟨rfl, hb⟩
  have HB1 := hide hb
  have hw1 := hb.size
  clear hb K28
  have hmz := madeZ l.length w1 (by omega)
  rw [Nat.mul_one] at hmz
  have HO0 := hide (show OwnL ic 1 3 (w1.alloc (.cells (madeCells #[Value.int .i64 0] l.length) 3)) _ _ _ from hmz)
  have HB0 := hide (kalloc (Below.refl w1.heap.size w1) (.cells (madeCells #[Value.int .i64 0] l.length) 3))
  clear hmz
  go_wp2
  clear hmk
  go_loopw [8, 9] (fun i9 _ wr => ∃ (i : Nat) (last : Int) (dn : List Int), i ≤ s.length ∧ i9 = .int .i64 i ∧ Hid (accGo l 0 s = accGo l last (s.drop i)) ∧ Hid ((i = 0 → last = 0) ∧ ∀ q y, i = q + 1 → s[q]? = some y → last = y.u) ∧ Hid (dn.length = l.length) ∧ Hid (∀ (k : Nat) (x : Jb), l[k]? = some x → dn[k]? = some (doneN x.no (s.take i))) ∧ Hid (∀ (k : Nat) (n : Int), dn[k]? = some n → 0 ≤ n ∧ n ≤ (i : Int) * 1099511627776) ∧ Hid (OwnL ic 1 3 wr w1.heap.size (.slice (some ⟨w1.heap.size, 0, none⟩) l.length l.length) dn) ∧ Hid (Below w1.heap.size w1 wr)) (fun i9 _ _ => s.length - (nI i9).toNat)
  case atStart =>
    have h1 : ∀ (k : Nat) (x : Jb), l[k]? = some x → (List.replicate l.length (0 : Int))[k]? = some (doneN x.no (s.take 0)) := fun k x hk => by
      have := (List.getElem?_eq_some_iff.1 hk).1
      simp [doneN, sumF, this]
    have h2 : ∀ (k : Nat) (n : Int), (List.replicate l.length (0 : Int))[k]? = some n → 0 ≤ n ∧ n ≤ ((0 : Nat) : Int) * 1099511627776 := fun k n hk => by
      have h1 := List.mem_of_getElem? hk
      have := (List.mem_replicate.1 h1).2
      subst this; simp
    exact ⟨0, 0, List.replicate l.length 0, Nat.zero_le _, rfl, rfl, ⟨fun _ => rfl, fun q y h => by omega⟩, List.length_replicate, h1, h2, HO0, HB0⟩
  case round =>
    clear HO0 HB0
    obtain ⟨i, last, dn, hi, rfl, HQ, HL, HDL, HDN, HBD, HO, HBw⟩ := hrel
    by_cases hlt : i < s.length
    · obtain ⟨x, b, off, hx, hdr, hA, hbw, q0, q1, q2⟩ := Sl.sx_at (HT.out.bel (kcall HB1.out HBw.out)) hlt
      have hq := HQ.out
      rw [hdr, accGo] at hq
      have iz : (i : Int) < (s.length : Int) := by omega
      have KI1 := hide (KI.out x.no)
      have hj := HJ.out x.no
      have HX := hide hx
      have hL := HL.out
      clear hx hdr
      have HBd := hide (kcall HB1.out HBw.out).drew
      subst hA
      rcases hj with ⟨j1, j2⟩ | ⟨k, y, j1, j2, j3, j4⟩
      · rw [j1] at KI1
        rw [j2, show okS last none x = false from rfl, Bool.false_and] at hq
        clear j1 j2 hL
        go_wp2_with fail
        refine (KI1.out _ (kcall HB1.out HBw.out)).mono ?_
        rintro e w' ⟨rfl, rfl⟩
        have H := hide hq
        clear hq HQ HL
        go_wp2_with fail
        refine wp_still_all (by kernel_rfl) (by kernel_rfl) ?_
        repeat (first | ((with_reducible refine wpStill_step (fun K hK => ?_)); go_simp; (try go_bits); (with_reducible refine hK _ ?_); clear hK K) | ((with_reducible refine wpStill_step (fun K hK => ?_)); go_simp; rw [if_neg (by simp [undef])]; (with_reducible refine hK _ ?_); clear hK K))
        (with_reducible refine wpStill_nil ?_)
        go_wp2
        refine bodyPost_ret (v := .tuple #[.bool false, .int .i64 0]) (by simp [results, Try.results26, go_sem]) rfl ⟨by rw [HR.out, H.out]; rfl, HBd.out⟩
      · rw [j2, Nat.zero_add] at KI1
        rw [j3, okS_ref] at hq
        have hkl : k < l.length := (List.getElem?_eq_some_iff.1 j1).1
        have kz : (k : Int) < (l.length : Int) := by omega
        obtain ⟨y', b2, off2, hy', _, hA2, hbw2, p0, p1, p2, p3, p4⟩ := Sl.jb_at (HS.out.bel (kcall HB1.out HBw.out)) hkl
        obtain rfl : y' = y := by rw [j1] at hy'; exact (Option.some.inj hy').symm
        subst hA2
        rcases chain3 (decide (x.u ≤ x.f)) (decide (x.f < y'.ready)) (decide (y'.due < x.u)) with g1 | ⟨g1, g2⟩ | ⟨g1, g2, g3⟩ | ⟨g1, g2, g3⟩
        case inl =>
          rw [g1] at hq
          simp only [Bool.not_true, Bool.false_and] at hq
          clear j1 j2 j3 j4 hL hy'
          go_wp2_with fail
          refine (KI1.out _ (kcall HB1.out HBw.out)).mono ?_
          rintro e w' ⟨rfl, rfl⟩
          have H := hide hq
          clear hq HQ HL
          go_wp2_with fail
          refine wp_still_all (by kernel_rfl) (by kernel_rfl) ?_
          repeat (first | ((with_reducible refine wpStill_step (fun K hK => ?_)); go_simp; (try go_bits); (with_reducible refine hK _ ?_); clear hK K) | ((with_reducible refine wpStill_step (fun K hK => ?_)); go_simp; rw [if_neg (by simp [undef])]; (with_reducible refine hK _ ?_); clear hK K))
          (with_reducible refine wpStill_nil ?_)
          go_wp2
          refine bodyPost_ret (v := .tuple #[.bool false, .int .i64 0]) (by simp [results, Try.results26, go_sem]) rfl ⟨by rw [HR.out, H.out]; rfl, HBd.out⟩
        case inr.inl =>
          rw [g1, g2] at hq
          simp only [Bool.not_true, Bool.not_false, Bool.true_and, Bool.false_and] at hq
          clear j1 j2 j3 j4 hL hy'
          go_wp2_with fail
          refine (KI1.out _ (kcall HB1.out HBw.out)).mono ?_
          rintro e w' ⟨rfl, rfl⟩
          have H := hide hq
          clear hq HQ HL
          go_wp2_with fail
          refine wp_still_all (by kernel_rfl) (by kernel_rfl) ?_
          repeat (first | ((with_reducible refine wpStill_step (fun K hK => ?_)); go_simp; (try go_bits); (with_reducible refine hK _ ?_); clear hK K) | ((with_reducible refine wpStill_step (fun K hK => ?_)); go_simp; rw [if_neg (by simp [undef])]; (with_reducible refine hK _ ?_); clear hK K))
          (with_reducible refine wpStill_nil ?_)
          go_wp2
          refine bodyPost_ret (v := .tuple #[.bool false, .int .i64 0]) (by simp [results, Try.results26, go_sem]) rfl ⟨by rw [HR.out, H.out]; rfl, HBd.out⟩
        case inr.inr.inl =>
          rw [g1, g2, g3] at hq
          simp only [Bool.not_true, Bool.not_false, Bool.true_and, Bool.false_and] at hq
          clear j1 j2 j3 j4 hL hy'
          go_wp2_with fail
          refine (KI1.out _ (kcall HB1.out HBw.out)).mono ?_
          rintro e w' ⟨rfl, rfl⟩
          have H := hide hq
          clear hq HQ HL
          go_wp2_with fail
          refine wp_still_all (by kernel_rfl) (by kernel_rfl) ?_
          repeat (first | ((with_reducible refine wpStill_step (fun K hK => ?_)); go_simp; (try go_bits); (with_reducible refine hK _ ?_); clear hK K) | ((with_reducible refine wpStill_step (fun K hK => ?_)); go_simp; rw [if_neg (by simp [undef])]; (with_reducible refine hK _ ?_); clear hK K))
          (with_reducible refine wpStill_nil ?_)
          go_wp2
          refine bodyPost_ret (v := .tuple #[.bool false, .int .i64 0]) (by simp [results, Try.results26, go_sem]) rfl ⟨by rw [HR.out, H.out]; rfl, HBd.out⟩
        case inr.inr.inr =>
          rw [g1, g2, g3] at hq
          simp only [Bool.not_false, Bool.true_and] at hq
          have hb1 := of_decide_eq_false g1
          have hb2 := of_decide_eq_false g2
          have hb3 := of_decide_eq_false g3
          have hyr := rightJ_iff.1 (HRT.out y' (List.mem_of_getElem? j1))
          obtain ⟨n0, hn0⟩ : ∃ n0, doneN y'.no (s.take i) = n0 := ⟨_, rfl⟩
          have hdk := HDN.out k y' j1
          rw [hn0] at hdk
          have hbd := HBD.out k n0 hdk
          have hwa : IntKind.i64.wrap (n0 + x.u) = n0 + x.u := by rw [IntKind.wrap_i64]; omega
          have hwb : IntKind.i64.wrap (n0 + x.u - x.f) = n0 + x.u - x.f := by rw [IntKind.wrap_i64]; omega
          have HDK := hide hdk
          have HL2 : Hid ((i + 1 = 0 → x.u = 0) ∧ ∀ (q : Nat) (z : Sx), i + 1 = q + 1 → s[q]? = some z → x.u = z.u) := hide ⟨fun h => by omega, fun q z h hz => by
            obtain rfl : q = i := by omega
            rw [HX.out] at hz; rw [Option.some.inj hz]⟩
          have HDL2 : Hid ((dn.set k (n0 + x.u - x.f)).length = l.length) := hide (by rw [List.length_set]; exact HDL.out)
          have HDN2 : Hid (∀ (k' : Nat) (z : Jb), l[k']? = some z → (dn.set k (n0 + x.u - x.f))[k']? = some (doneN z.no (s.take (i + 1)))) := hide (fun k' z hz => by
            rw [done_take HX.out]
            by_cases hkk : k = k'
            · subst hkk
              rw [j1] at hz
              obtain rfl := Option.some.inj hz
              rw [List.getElem?_set, if_pos rfl, if_pos (by have := HDL.out; omega), hn0, if_pos j4.symm]
              congr 1; omega
            · rw [List.getElem?_set, if_neg hkk, HDN.out k' z hz]
              have hne : ¬ x.no = z.no := fun e => hkk (by
                have hp := (okL_iff.1 HOKL.out).2
                exact nos_of (ts := Go.Mine.Q.start l) (by rw [js_start]; exact hp) (i := k) (k := k') (x := ⟨y', y'.need⟩) (y := ⟨z, z.need⟩) (by unfold Go.Mine.Q.start; rw [List.getElem?_map, j1]; rfl) (by unfold Go.Mine.Q.start; rw [List.getElem?_map, hz]; rfl) (j4.trans e))
              rw [if_neg hne]; congr 1; omega)
          have HBD2 : Hid (∀ (k' : Nat) (n : Int), (dn.set k (n0 + x.u - x.f))[k']? = some n → 0 ≤ n ∧ n ≤ ((i + 1 : Nat) : Int) * 1099511627776) := hide (fun k' n hn => by
            rw [List.getElem?_set] at hn
            split at hn
            · split at hn
              · have := Option.some.inj hn; omega
              · cases hn
            · have := HBD.out k' n hn; omega)
          have HOd := hide (HO.out.bel (Below.refl _ _).drew)
          have HB9 := hide HBw.out.drew
          by_cases hi0 : i = 0
          · have g0 : decide (0 < i) = false := decide_eq_false (by omega)
            rw [hL.1 hi0, decide_eq_true (show (0 : Int) ≤ x.f by omega), Bool.true_and] at hq
            clear j1 j2 j3 j4 hL hy' hi0 hn0 hdk hbd hyr hb1 hb2 hb3
            go_wp2_with fail
            refine (KI1.out _ (kcall HB1.out HBw.out)).mono ?_
            rintro e w' ⟨rfl, rfl⟩
            have H := hide hq
            clear hq HQ
            go_wp2_with fail
            refine wp_still_all (by kernel_rfl) (by kernel_rfl) ?_
            repeat (first | ((with_reducible refine wpStill_step (fun K hK => ?_)); go_simp; (try go_bits); (with_reducible refine hK _ ?_); clear hK K) | ((with_reducible refine wpStill_step (fun K hK => ?_)); go_simp; rw [if_neg (by simp [undef])]; (with_reducible refine hK _ ?_); clear hK K))
            (with_reducible refine wpStill_nil ?_)
            clear q0 q1 q2 p0 p1 p2 p3 p4 g0
            obtain ⟨g, cap, hv, hg1, hg2, _, _, hfz, hcell, hput⟩ := own_at HOd.out HDK.out
            rw [HDL.out] at hv
            cases hv
            obtain ⟨x', b', off', hx', _, hA', hbw', q0, q1, q2⟩ := Sl.sx_at (HT.out.bel HBd.out) hlt
            cases hA'
            obtain rfl : x' = x := by rw [HX.out] at hx'; exact (Option.some.inj hx').symm
            have d0 : wr.drew.cell? ⟨w1.heap.size, k, none⟩ = some (.int .i64 n0) := by have := hcell 0 _ (show (ic n0)[0]? = some (.int .i64 n0) from rfl); simpa using this
            have z0 := hfz k
            have HP := hide (hput 0 (.int .i64 (n0 + x'.u - x'.f)) (n0 + x'.u - x'.f) (wr.drew.drew.setCell ⟨w1.heap.size, k, none⟩ (.int .i64 (n0 + x'.u - x'.f))) (by simp; rfl) (by decide) rfl)
            have HB3 := hide (HB9.out.drew.setCell (p := ⟨w1.heap.size, k, none⟩) (Nat.le_refl _) (.int .i64 (n0 + x'.u - x'.f)))
            clear hfz hcell hput hx'
            go_wp2_with fail
            refine wp_still_tail 18 (by kernel_rfl) (by kernel_rfl) ?_
            simp only [List.take_succ_cons, List.take_zero, List.drop_succ_cons, List.drop_zero]
            repeat ((with_reducible refine wpStill_step (fun K hK => ?_)); go_simp; (try go_bits); (with_reducible refine hK _ ?_); clear hK K)
            (with_reducible refine wpStill_nil ?_)
            go_wp2
            go_roundw
            case rel => exact ⟨i + 1, x'.u, dn.set k (n0 + x'.u - x'.f), by omega, by go_num, H, HL2, HDL2, HDN2, HBD2, HP, HB3⟩
            case measure => simp [nI]; omega
          · obtain ⟨q, hqi⟩ : ∃ q, i = q + 1 := ⟨i - 1, by omega⟩
            have g0 : decide (0 < i) = true := decide_eq_true (by omega)
            have hqz : IntKind.i64.wrap ((i : Int) - 1) = (q : Int) := by rw [IntKind.wrap_i64]; omega
            have hqn : (q : Int) < (s.length : Int) := by omega
            obtain ⟨z, b3, off3, hz, _, hA3, hbw3, e0, e1, e2⟩ := Sl.sx_at (HT.out.bel (kcall HB1.out HBw.out)) (show q < s.length by omega)
            cases hA3
            rw [hL.2 q z hqi hz] at hq
            clear j1 j2 j3 j4 hL hy' hi0 hn0 hdk hbd hyr hb1 hb2 hb3 hz hqi
            rcases Bool.eq_false_or_eq_true (decide (x.f < z.u)) with g4 | g4
            · have h4 := of_decide_eq_true g4
              rw [decide_eq_false (show ¬ z.u ≤ x.f by omega), Bool.false_and] at hq
              clear h4
              go_wp2_with fail
              refine (KI1.out _ (kcall HB1.out HBw.out)).mono ?_
              rintro e w' ⟨rfl, rfl⟩
              have H := hide hq
              clear hq HQ HL
              go_wp2_with fail
              refine wp_still_all (by kernel_rfl) (by kernel_rfl) ?_
              repeat (first | ((with_reducible refine wpStill_step (fun K hK => ?_)); go_simp; (try go_bits); (with_reducible refine hK _ ?_); clear hK K) | ((with_reducible refine wpStill_step (fun K hK => ?_)); go_simp; rw [if_neg (by simp [undef])]; (with_reducible refine hK _ ?_); clear hK K))
              (with_reducible refine wpStill_nil ?_)
              go_wp2
              refine bodyPost_ret (v := .tuple #[.bool false, .int .i64 0]) (by simp [results, Try.results26, go_sem]) rfl ⟨by rw [HR.out, H.out]; rfl, HBd.out⟩
            · have h4 := of_decide_eq_false g4
              rw [decide_eq_true (show z.u ≤ x.f by omega), Bool.true_and] at hq
              clear h4
              go_wp2_with fail
              refine (KI1.out _ (kcall HB1.out HBw.out)).mono ?_
              rintro e w' ⟨rfl, rfl⟩
              have H := hide hq
              clear hq HQ
              go_wp2_with fail
              refine wp_still_all (by kernel_rfl) (by kernel_rfl) ?_
              repeat (first | ((with_reducible refine wpStill_step (fun K hK => ?_)); go_simp; (try go_bits); (with_reducible refine hK _ ?_); clear hK K) | ((with_reducible refine wpStill_step (fun K hK => ?_)); go_simp; rw [if_neg (by simp [undef])]; (with_reducible refine hK _ ?_); clear hK K))
              (with_reducible refine wpStill_nil ?_)
              clear q0 q1 q2 p0 p1 p2 p3 p4 g0 g4 e0 e1 e2 hqz
              obtain ⟨g, cap, hv, hg1, hg2, _, _, hfz, hcell, hput⟩ := own_at HOd.out HDK.out
              rw [HDL.out] at hv
              cases hv
              obtain ⟨x', b', off', hx', _, hA', hbw', q0, q1, q2⟩ := Sl.sx_at (HT.out.bel HBd.out) hlt
              cases hA'
              obtain rfl : x' = x := by rw [HX.out] at hx'; exact (Option.some.inj hx').symm
              have d0 : wr.drew.cell? ⟨w1.heap.size, k, none⟩ = some (.int .i64 n0) := by have := hcell 0 _ (show (ic n0)[0]? = some (.int .i64 n0) from rfl); simpa using this
              have z0 := hfz k
              have HP := hide (hput 0 (.int .i64 (n0 + x'.u - x'.f)) (n0 + x'.u - x'.f) (wr.drew.drew.setCell ⟨w1.heap.size, k, none⟩ (.int .i64 (n0 + x'.u - x'.f))) (by simp; rfl) (by decide) rfl)
              have HB3 := hide (HB9.out.drew.setCell (p := ⟨w1.heap.size, k, none⟩) (Nat.le_refl _) (.int .i64 (n0 + x'.u - x'.f)))
              clear hfz hcell hput hx'
              go_wp2_with fail
              refine wp_still_tail 18 (by kernel_rfl) (by kernel_rfl) ?_
              simp only [List.take_succ_cons, List.take_zero, List.drop_succ_cons, List.drop_zero]
              repeat ((with_reducible refine wpStill_step (fun K hK => ?_)); go_simp; (try go_bits); (with_reducible refine hK _ ?_); clear hK K)
              (with_reducible refine wpStill_nil ?_)
              go_wp2
              go_roundw
              case rel => exact ⟨i + 1, x'.u, dn.set k (n0 + x'.u - x'.f), by omega, by go_num, H, HL2, HDL2, HDN2, HBD2, HP, HB3⟩
              case measure => simp [nI]; omega
    · obtain rfl : i = s.length := by omega
      have hq := HQ.out
      rw [List.drop_of_length_le (Nat.le_refl _), accGo] at hq
      have HQ1 := hide hq
      have hdn := HDN.out
      rw [List.take_length] at hdn
      have HDN1 := hide hdn
      obtain ⟨C, cc, hCe, hC⟩ := HO.out.sl
      rw [HDL.out] at hCe
      cases hCe
      have HC := hide hC
      obtain ⟨w2, hw2e⟩ : ∃ x, x = wr := ⟨_, rfl⟩
      subst hw2e
      clear hq hdn hC HQ HL HDN HBD HO hi
      go_wp2
      go_loopw [10] (fun i10 wr => ∃ k : Nat, k ≤ l.length ∧ i10 = .int .i64 k ∧ Hid (∀ (j : Nat) (y : Jb), j < k → l[j]? = some y → doneN y.no s = y.need) ∧ Hid (Below w2.heap.size w2 wr)) (fun i10 _ => l.length - (nI i10).toNat)
      case atStart => exact ⟨0, Nat.zero_le _, rfl, fun j y h => absurd h (Nat.not_lt_zero _), Below.refl _ _⟩
      case round =>
        obtain ⟨k, hk, rfl, HA, HB2⟩ := hrel
        by_cases hlt : k < l.length
        · have HB3 := hide (kcall (kcall HB1.out HBw.out) HB2.out)
          obtain ⟨y, b, off, hy, _, rfl, hbw, p0, p1, p2, p3, p4⟩ := Sl.jb_at (HS.out.bel HB3.out) hlt
          obtain ⟨n, b2, off2, hn, _, hA2, hbw2, d0⟩ := Sl.ic_at (HC.out.bel HB2.out) (show k < dn.length by have := HDL.out; omega)
          cases hA2
          simp only [Nat.zero_add] at d0
          have kz : (k : Int) < (l.length : Int) := by omega
          have hdk := HDN1.out k y hy
          rw [hn] at hdk
          obtain rfl := Option.some.inj hdk
          have HY := hide hy
          have HBd := hide HB2.out.drew
          have HBe := hide HB3.out.drew
          generalize hdd : doneN y.no s = n0 at *
          have HDD := hide hdd
          clear hn hy hdk hdd HDN1 HB2
          by_cases he : n0 = y.need
          · have g1 : (n0 != y.need) = false := by simpa using he
            have HA2 : Hid (∀ (j : Nat) (y : Jb), j < k + 1 → l[j]? = some y → doneN y.no s = y.need) := hide (fun j z hj hz => by
              rcases Nat.lt_or_ge j k with h | h
              · exact HA.out j z h hz
              · obtain rfl : j = k := by omega
                rw [HY.out] at hz
                obtain rfl := Option.some.inj hz
                rw [HDD.out]; exact he)
            clear he
            go_wp2_with fail
            refine wp_still_all (by kernel_rfl) (by kernel_rfl) ?_
            repeat (first | ((with_reducible refine wpStill_step (fun K hK => ?_)); go_simp; (try go_bits); (with_reducible refine hK _ ?_); clear hK K) | ((with_reducible refine wpStill_step (fun K hK => ?_)); go_simp; rw [if_neg (by simp [undef])]; (with_reducible refine hK _ ?_); clear hK K))
            (with_reducible refine wpStill_nil ?_)
            go_wp2
            go_roundw
            case rel => exact ⟨k + 1, by omega, by go_num, HA2, HBd⟩
            case measure => simp [nI]; omega
          · have g1 : (n0 != y.need) = true := by simpa using he
            have HF := hide (show (l.all fun j => decide (doneN j.no s = j.need)) = false from List.all_eq_false.2 ⟨y, List.mem_of_getElem? HY.out, by simp [HDD.out, he]⟩)
            clear he
            go_wp2_with fail
            refine wp_still_all (by kernel_rfl) (by kernel_rfl) ?_
            repeat (first | ((with_reducible refine wpStill_step (fun K hK => ?_)); go_simp; (try go_bits); (with_reducible refine hK _ ?_); clear hK K) | ((with_reducible refine wpStill_step (fun K hK => ?_)); go_simp; rw [if_neg (by simp [undef])]; (with_reducible refine hK _ ?_); clear hK K))
            (with_reducible refine wpStill_nil ?_)
            go_wp2
            refine bodyPost_ret (v := .tuple #[.bool false, .int .i64 0]) (by simp [results, Try.results26, go_sem]) rfl ⟨by rw [HR.out, HF.out, Bool.and_false], HBe.out⟩
        · have HF := hide (show (l.all fun j => decide (doneN j.no s = j.need)) = true from List.all_eq_true.2 (fun y hy => by
            obtain ⟨j, hj⟩ := List.getElem?_of_mem hy
            exact decide_eq_true (HA.out j y (by have := (List.getElem?_eq_some_iff.1 hj).1; omega) hj)))
          have HB3 := hide (kcall (kcall HB1.out HBw.out) HB2.out)
          clear HA HDN1
          go_wp2
          refine bodyPost_ret (v := .tuple #[.bool true, .int .i64 0]) (by simp [results, Try.results26, go_sem]) rfl ⟨by rw [HR.out, HF.out, HQ1.out]; rfl, HB3.out⟩
end Go.Proofs.Ytbkokljelopcnaa
namespace Go.Proofs.Ytbkokljelopcnaa
open Go.RowKit Go.Maps Go.Mine Go.Mine.Q
attribute [local go_sem] Oper.semAt_some
def adV (ad : Int → Nat) (x : Jb) : Value := .pointer (some ⟨ad x.no, 0, none⟩)
theorem byNo_congr {F G : Jb → Value} {l : List Jb} (h : ∀ y ∈ l, F y = G y) : byNo F l = byNo G l := by
  funext n
  unfold byNo
  cases hj : jobOf l n with
  | none => rfl
  | some y => rw [Option.map_some, Option.map_some, h y (jobOf_some hj).1]
/-- tasks, each in a block of its own -/
structure TkN (w : World) (B : Nat) (l : List Jb) (ad : Int → Nat) (lf : Jb → Int) : Prop where
  blk : ∀ x ∈ l, Blk w (ad x.no) 71 (tkC ⟨x, lf x⟩)
  lo : ∀ x ∈ l, B ≤ ad x.no
  inj : ∀ x ∈ l, ∀ y ∈ l, ad x.no = ad y.no → x.no = y.no
theorem TkN.bel {w w' : World} {B : Nat} {l : List Jb} {ad : Int → Nat} {lf : Jb → Int} (h : TkN w B l ad lf) (hb : Below w.heap.size w w') : TkN w' B l ad lf := ⟨fun x hx => (h.blk x hx).bel hb, h.lo, h.inj⟩
theorem TkN.grown {w w' : World} {B : Nat} {l : List Jb} {ad : Int → Nat} {lf : Jb → Int} (h : TkN w B l ad lf) {row : Option Nat} (hg : w.grownBy w' row) (hr : ∀ x ∈ l, some (ad x.no) ≠ row) : TkN w' B l ad lf := ⟨fun x hx => (h.blk x hx).grown hg (hr x hx), h.lo, h.inj⟩
theorem TkN.snoc {w w' : World} {B : Nat} {l : List Jb} {ad : Int → Nat} {lf : Jb → Int} (h : TkN w B l ad lf) {x : Jb} {g : Nat} (hl : ∀ y ∈ l, y.no < x.no) (hk : ∀ a, (∀ cs, Blk w a 71 cs → Blk w' a 71 cs)) (hg : Blk w' g 71 (tkC ⟨x, lf x⟩)) (hB : B ≤ g) (hn : w.heap.size ≤ g) :
    TkN w' B (l ++ [x]) (fun n => if n = x.no then g else ad n) lf := by
  have hne : ∀ y ∈ l, ¬ y.no = x.no := fun y hy e => by have := hl y hy; omega
  have hlt : ∀ y ∈ l, ad y.no < g := fun y hy => by have := (h.blk y hy).lt; omega
  refine ⟨fun y hy => ?_, fun y hy => ?_, fun y hy z hz e => ?_⟩
  · rcases List.mem_append.1 hy with hy | hy
    · show Blk w' (if y.no = x.no then _ else _) 71 _
      rw [if_neg (hne y hy)]; exact hk _ _ (h.blk y hy)
    · simp at hy; subst hy
      show Blk w' (if y.no = y.no then _ else _) 71 _
      rw [if_pos rfl]; exact hg
  · rcases List.mem_append.1 hy with hy | hy
    · show B ≤ (if y.no = x.no then _ else _)
      rw [if_neg (hne y hy)]; exact h.lo y hy
    · simp at hy; subst hy
      show B ≤ (if y.no = y.no then _ else _)
      rw [if_pos rfl]; exact hB
  · have e' : (if y.no = x.no then g else ad y.no) = (if z.no = x.no then g else ad z.no) := e
    rcases List.mem_append.1 hy with hy1 | hy1 <;> rcases List.mem_append.1 hz with hz1 | hz1
    · rw [if_neg (hne y hy1), if_neg (hne z hz1)] at e'; exact h.inj y hy1 z hz1 e'
    · have hz2 : z = x := by simpa using hz1
      rw [if_neg (hne y hy1), if_pos (by rw [hz2])] at e'
      have := hlt y hy1; omega
    · have hy2 : y = x := by simpa using hy1
      rw [if_neg (hne z hz1), if_pos (by rw [hy2])] at e'
      have := hlt z hz1; omega
    · have hy2 : y = x := by simpa using hy1
      have hz2 : z = x := by simpa using hz1
      rw [hy2, hz2]
theorem TkN.put {w w' : World} {B : Nat} {l : List Jb} {ad : Int → Nat} {lf lf' : Jb → Int} (h : TkN w B l ad lf) {y : Jb} (hy : y ∈ l) (hw : w.setCell ⟨ad y.no, 5, none⟩ (.int .i64 (lf' y)) = w') (ho : ∀ x ∈ l, x.no ≠ y.no → lf' x = lf x) (hp : ∀ x ∈ l, x.no = y.no → x = y) : TkN w' B l ad lf' := by
  subst hw
  refine ⟨fun x hx => ?_, h.lo, h.inj⟩
  by_cases e : x.no = y.no
  · obtain rfl := hp x hx e
    exact (h.blk x hx).set 5 _ rfl
  · rw [ho x hx e]
    exact (h.blk x hx).far _ _ (fun e' => e (h.inj x hx y hy e'))
def lfAt (s : List Sx) (i : Nat) (x : Jb) : Int := x.need - doneN x.no (s.take i)
theorem no_inj {l : List Jb} (hp : l.Pairwise fun x y => x.no < y.no) {x y : Jb} (hx : x ∈ l) (hy : y ∈ l) (h : x.no = y.no) : x = y := by
  have h1 := jobOf_mem hp hx
  rw [h, jobOf_mem hp hy] at h1
  exact (Option.some.inj h1).symm
set_option maxRecDepth 100000 in
set_option maxHeartbeats 8000000 in
theorem accepts25_good (A : Option Addr) (c : Nat) (l : List Jb) (B : Option Addr) (d : Nat) (s : List Sx) (w : World) (hS : Sl jbC 5 w A c l) (hT0 : Sl sxC 3 w B d s) (hz : chk l = 0) (hs : s.length ≤ 1000) (hI : ∀ x ∈ s, I64 x.no) :
    Calls Try.prog 25 #[.slice A l.length c, .slice B s.length d] w fun e w' => e = .returned (.tuple #[.bool (acc l s), .int .i64 0]) ∧ Below w.heap.size w w' := by
  obtain ⟨hr, h64, hok⟩ := right_of hz
  have hlc := hS.le
  have hc := hS.max
  have hld := hT0.le
  have hd := hT0.max
  have K27 := hide (fun w (h : Sl jbC 5 w A c l) => by have := check27 A c l w h; rw [hz] at this; exact this)
  have hmm := @run_makeMap Try.prog
  have HRT := hide hr
  have HP := hide (okL_iff.1 hok).2
  have HS := hide hS
  have HT := hide hT0
  have HI := hide hI
  have HR := hide (show acc l s = (accGo l 0 s && l.all fun j => decide (doneN j.no s = j.need)) from rfl)
  generalize acc l s = RR at HR ⊢
  clear hS hT0 hr hz hok hI
  go_enter Try.func25, Try.ntmps25
  go_wp2_with fail
  refine (K27.out w HS.out).mono ?_
  rintro e w1 ⟨rfl, hb⟩
  have HM4 := hide (MapI.made w1 Try.prog 3)
  have HB4 := hide (kalloc hb (.map #[] 0))
  have HK4 : Hid (TkN (w1.alloc (.map #[] 0)) w.heap.size (l.take 0) (fun _ => 0) (·.need)) := hide ⟨by simp, by simp, by simp⟩
  have hw1 := hb.size
  clear hb K27
  go_wp2_with fail
  clear hmm
  go_loopw [25] (fun v25 wr => ∃ (k : Nat) (ad : Int → Nat), k ≤ l.length ∧ v25 = .int .i64 k ∧ Hid (MapI Try.prog 3 wr w1.heap.size k (byNo (adV ad) (l.take k))) ∧ Hid (TkN wr w.heap.size (l.take k) ad (·.need)) ∧ Hid (Below w.heap.size w wr)) (fun i _ => l.length - (nI i).toNat)
  case atStart => exact ⟨0, _, Nat.zero_le _, rfl, HM4, HK4, HB4⟩
  case round =>
    clear HM4 HB4 HK4
    obtain ⟨k, ad, hk, rfl, HM, HK, HB⟩ := hrel
    by_cases hlt : k < l.length
    · obtain ⟨x, b, off, hx, _, rfl, hbw, d0, d1, d2, d3, d4⟩ := Sl.jb_at (HS.out.bel HB.out) hlt
      have HX := hide (take_of_get hx)
      have HL := hide (take_lt HP.out hx)
      have hxr := rightJ_iff.1 (HRT.out x (List.mem_of_getElem? hx))
      clear hx
      go_wp2_with fail
      obtain ⟨w5, e5, M5, g5⟩ := ((HM.out.alloc (.cells (jbC x).toArray 39)).alloc (.cells (tkC ⟨x, x.need⟩) 71)).put Try.underlying3 Try.underlying68 (by unfold maxLen; omega) (show I64 x.no by unfold I64; omega) (.pointer (some ⟨wr.heap.size + 1, 0, none⟩))
      simp only [jbC, tkC] at e5 M5 g5
      rw [e5]
      have hzB := HB.out.size
      have M6 : MapI Try.prog 3 w5 w1.heap.size (k + 1) (byNo (adV fun n => if n = x.no then wr.heap.size + 1 else ad n) (l.take (k + 1))) := by
        rw [HX.out, ← byNo_snoc HL.out, byNo_congr (F := adV fun n => if n = x.no then wr.heap.size + 1 else ad n) (G := adV ad) (l := l.take k) (fun y hy => by have := HL.out y hy; show Value.pointer (some ⟨if y.no = x.no then _ else _, 0, none⟩) = _; rw [if_neg (by omega)]; rfl)]
        show MapI _ _ _ _ _ (Go.Mine.upd _ _ (Value.pointer (some ⟨if x.no = x.no then _ else _, 0, none⟩)))
        rw [if_pos rfl]; exact M5
      have hnm : ∀ a cs, Blk wr a 71 cs → some a ≠ some w1.heap.size := fun a cs h e => map_notcells HM.out h (Option.some.inj e)
      have K6 : TkN w5 w.heap.size (l.take (k + 1)) (fun n => if n = x.no then wr.heap.size + 1 else ad n) (·.need) := by
        rw [HX.out]
        refine HK.out.snoc HL.out (fun a cs h => ((h.alloc _).alloc _).grown g5 (hnm a cs h)) ((Blk.new1 wr _ _ _).grown g5 (by have := HM.out.lt; simp; omega)) (by omega) (by omega)
      have B6 : Below w.heap.size w w5 := Below.grown (kalloc (kalloc HB.out _) _) g5 (by simp; omega) (fun g hg => by have := Option.some.inj hg; omega)
      have HM6 := hide M6
      have HK6 := hide K6
      have HB6 := hide B6
      clear M5 M6 K6 B6 g5 e5 HM HK HB d0 d1 d2 d3 d4 hnm
      go_wp2
      go_roundw
      case rel => exact ⟨k + 1, _, by omega, by go_num, HM6, HK6, HB6⟩
      case measure => simp [nI]; omega
    · obtain rfl : k = l.length := by omega
      have hM := HM.out
      have hK := HK.out
      rw [List.take_length] at hM hK
      obtain ⟨wl, hwl⟩ : ∃ x, x = wr := ⟨_, rfl⟩
      subst hwl
      have HM5 := hide hM
      have HK5 : Hid (TkN wl w.heap.size l ad (lfAt s 0)) := hide (by
        have e : lfAt s 0 = (·.need) := by funext x; simp [lfAt, doneN, sumF]
        rw [e]; exact hK)
      have HB5 := hide HB.out
      clear hM hK HM HK HB
      go_wp2
      go_loopw [10, 40] (fun v10 v40 wr => ∃ (i : Nat) (last : Int), i ≤ s.length ∧ v40 = .int .i64 i ∧ v10 = .int .i64 last ∧ Hid (accGo l 0 s = accGo l last (s.drop i)) ∧ Hid (∀ x ∈ l, 0 ≤ doneN x.no (s.take i) ∧ doneN x.no (s.take i) ≤ (i : Int) * 1099511627776) ∧ Hid (MapI Try.prog 3 wr w1.heap.size l.length (byNo (adV ad) l)) ∧ Hid (TkN wr w.heap.size l ad (lfAt s i)) ∧ Hid (Below w.heap.size w wr)) (fun _ i _ => s.length - (nI i).toNat)
      case atStart => exact ⟨0, 0, Nat.zero_le _, rfl, rfl, rfl, (fun x _ => by simp [doneN, sumF]), HM5, HK5, HB5⟩
      case round =>
        clear HM5 HK5 HB5
        obtain ⟨i, last, hi, rfl, rfl, HQ, HD, HM, HK, HB⟩ := hrel
        by_cases hlt2 : i < s.length
        · obtain ⟨x, b, off, hx, hdr, rfl, hbw, q0, q1, q2⟩ := Sl.sx_at (HT.out.bel HB.out) hlt2
          have hq := HQ.out
          rw [hdr, accGo] at hq
          have iz : (i : Int) < (s.length : Int) := by omega
          obtain ⟨w5, hw5⟩ : ∃ w5, wr.alloc (.cells #[.int .i64 x.no, .int .i64 x.f, .int .i64 x.u] 41) = w5 := ⟨_, rfl⟩
          have X5 : Blk w5 wr.heap.size 41 #[.int .i64 x.no, .int .i64 x.f, .int .i64 x.u] := by rw [← hw5]; exact Blk.new _ _ _
          have hbW : Below wr.heap.size wr w5 := by rw [← hw5]; exact kalloc (Below.refl _ _) _
          have M5 : MapI Try.prog 3 w5 w1.heap.size l.length (byNo (adV ad) l) := HM.out.bel hbW
          have hlk := M5.look_ok Try.underlying3 Try.underlying68 (Try.zeroValue69 _) (HI.out x (List.mem_of_getElem? hx))
          have HX := hide hx
          have HB5 := hide (kcall HB.out hbW)
          have HK5 := hide (HK.out.bel hbW)
          have HM5 := hide M5
          have n0 := X5.cell (v := .int .i64 x.no) 0 rfl
          have n1 := X5.cell (v := .int .i64 x.f) 1 rfl
          have n2 := X5.cell (v := .int .i64 x.u) 2 rfl
          have nl := X5.lt
          clear hx hdr HQ M5 hbW
          cases hj : jobOf l x.no with
          | none =>
            rw [show byNo (adV ad) l x.no = none by unfold byNo; rw [hj]; rfl] at hlk
            rw [hj, show okS last none x = false from rfl, Bool.false_and] at hq
            simp only [Option.getD_none, Option.isSome_none] at hlk
            have H := hide hq
            clear hq hj
            go_wp2_with fail
            refine wp_still_all (by kernel_rfl) (by kernel_rfl) ?_
            repeat (first | ((with_reducible refine wpStill_step (fun K hK => ?_)); go_simp; (try go_bits); (with_reducible refine hK _ ?_); clear hK K) | ((with_reducible refine wpStill_step (fun K hK => ?_)); go_simp; rw [if_neg (by simp [undef])]; (with_reducible refine hK _ ?_); clear hK K))
            (with_reducible refine wpStill_nil ?_)
            go_wp2
            exact bodyPost_ret (v := .tuple #[.bool false, .int .i64 0]) (by simp [results, Try.results25, go_sem]) rfl ⟨by rw [HR.out, H.out]; rfl, HB5.out.drew⟩
          | some y =>
            obtain ⟨hym, hyn⟩ := jobOf_some hj
            rw [show byNo (adV ad) l x.no = some (.pointer (some ⟨ad y.no, 0, none⟩)) by unfold byNo; rw [hj]; rfl] at hlk
            rw [hj, okS_ref] at hq
            simp only [Option.getD_some, Option.isSome_some] at hlk
            have hyr := rightJ_iff.1 (HRT.out y hym)
            have yb := HK5.out.blk y hym
            have t1 := yb.cell (v := .int .i64 y.ready) 1 rfl
            have t2 := yb.cell (v := .int .i64 y.due) 2 rfl
            have t5 := yb.cell (v := .int .i64 (lfAt s i y)) 5 rfl
            have tl := yb.lt
            have tt := yb.thaw 5
            have hcs : (decide (x.f < max last y.ready) = true ∧ accGo l 0 s = false) ∨ (decide (x.f < max last y.ready) = false ∧ decide (x.u ≤ x.f) = true ∧ accGo l 0 s = false) ∨
                (decide (x.f < max last y.ready) = false ∧ decide (x.u ≤ x.f) = false ∧ decide (y.due < x.u) = true ∧ accGo l 0 s = false) ∨
                (decide (x.f < max last y.ready) = false ∧ decide (x.u ≤ x.f) = false ∧ decide (y.due < x.u) = false ∧ accGo l 0 s = accGo l x.u (s.drop (i + 1)) ∧ last ≤ x.f ∧ y.ready ≤ x.f) := by
              rw [hq]
              by_cases h1 : x.f < max last y.ready
              · left
                refine ⟨decide_eq_true h1, ?_⟩
                by_cases h2 : x.f < y.ready
                · simp [h2]
                · have : ¬ last ≤ x.f := by omega
                  simp [this]
              · right
                have h1l : last ≤ x.f := by omega
                have h1r : ¬ x.f < y.ready := by omega
                by_cases h2 : x.u ≤ x.f
                · left; exact ⟨decide_eq_false h1, decide_eq_true h2, by simp [h2]⟩
                · right
                  by_cases h3 : y.due < x.u
                  · left; exact ⟨decide_eq_false h1, decide_eq_false h2, decide_eq_true h3, by simp [h3]⟩
                  · right; exact ⟨decide_eq_false h1, decide_eq_false h2, decide_eq_false h3, by simp [h1l, h1r, h2, h3], h1l, by omega⟩
            have HYM := hide hym
            have HYN := hide hyn
            clear hq hj yb hym hyn
            rcases hcs with ⟨g1, H⟩ | ⟨g1, g2, H⟩ | ⟨g1, g2, g3, H⟩ | ⟨g1, g2, g3, H, hl1, hl2⟩
            · replace H := hide H
              go_wp2_with fail
              refine wp_still_all (by kernel_rfl) (by kernel_rfl) ?_
              repeat (first | ((with_reducible refine wpStill_step (fun K hK => ?_)); go_simp; (try go_bits); (with_reducible refine hK _ ?_); clear hK K) | ((with_reducible refine wpStill_step (fun K hK => ?_)); go_simp; rw [if_neg (by simp [undef])]; (with_reducible refine hK _ ?_); clear hK K))
              (with_reducible refine wpStill_nil ?_)
              go_wp2
              exact bodyPost_ret (v := .tuple #[.bool false, .int .i64 0]) (by simp [results, Try.results25, go_sem]) rfl ⟨by rw [HR.out, H.out]; rfl, HB5.out.drew⟩
            · replace H := hide H
              go_wp2_with fail
              refine wp_still_all (by kernel_rfl) (by kernel_rfl) ?_
              repeat (first | ((with_reducible refine wpStill_step (fun K hK => ?_)); go_simp; (try go_bits); (with_reducible refine hK _ ?_); clear hK K) | ((with_reducible refine wpStill_step (fun K hK => ?_)); go_simp; rw [if_neg (by simp [undef])]; (with_reducible refine hK _ ?_); clear hK K))
              (with_reducible refine wpStill_nil ?_)
              go_wp2
              exact bodyPost_ret (v := .tuple #[.bool false, .int .i64 0]) (by simp [results, Try.results25, go_sem]) rfl ⟨by rw [HR.out, H.out]; rfl, HB5.out.drew⟩
            · replace H := hide H
              go_wp2_with fail
              refine wp_still_all (by kernel_rfl) (by kernel_rfl) ?_
              repeat (first | ((with_reducible refine wpStill_step (fun K hK => ?_)); go_simp; (try go_bits); (with_reducible refine hK _ ?_); clear hK K) | ((with_reducible refine wpStill_step (fun K hK => ?_)); go_simp; rw [if_neg (by simp [undef])]; (with_reducible refine hK _ ?_); clear hK K))
              (with_reducible refine wpStill_nil ?_)
              go_wp2
              exact bodyPost_ret (v := .tuple #[.bool false, .int .i64 0]) (by simp [results, Try.results25, go_sem]) rfl ⟨by rw [HR.out, H.out]; rfl, HB5.out.drew⟩
            · replace H := hide H
              obtain ⟨hd1, hd2⟩ := HD.out y HYM.out
              have hxu : x.f < x.u := by have := of_decide_eq_false g2; omega
              have hud : x.u ≤ y.due := by have := of_decide_eq_false g3; omega
              have hin : (i : Int) * 1099511627776 ≤ 1099511627776000 := by omega
              have HNX := hide (fun z (hz : z ∈ l) => done_take HX.out z.no)
              have hnew : lfAt s (i + 1) y = lfAt s i y - (x.u - x.f) := by
                unfold lfAt; rw [HNX.out y HYM.out, if_pos HYN.out.symm]; omega
              have hwa : IntKind.i64.wrap (x.u - x.f) = x.u - x.f := by rw [IntKind.wrap_i64]; omega
              have hwb : IntKind.i64.wrap (lfAt s i y - (x.u - x.f)) = lfAt s i y - (x.u - x.f) := by rw [IntKind.wrap_i64]; unfold lfAt; omega
              obtain ⟨wf, hwf⟩ : ∃ wf, w5.setCell ⟨ad y.no, 5, none⟩ (.int .i64 (lfAt s i y - (x.u - x.f))) = wf := ⟨_, rfl⟩
              have hap := map_apart HM5.out t5
              have hBF : Below w.heap.size w wf := by rw [← hwf]; exact HB5.out.setCell (by dsimp only; exact HK5.out.lo y HYM.out) _
              have hMF : MapI Try.prog 3 wf w1.heap.size l.length (byNo (adV ad) l) := by rw [← hwf]; exact HM5.out.setCell (fun e => hap e.symm) _
              have hKF : TkN wf w.heap.size l ad (lfAt s (i + 1)) := HK5.out.put HYM.out (by rw [hnew]; exact hwf) (fun z hz hne => by
                unfold lfAt; rw [HNX.out z hz, if_neg (by rw [← HYN.out]; exact fun e => hne e.symm)]; omega) (fun z hz e => no_inj HP.out hz HYM.out e)
              have hDF : ∀ z ∈ l, 0 ≤ doneN z.no (s.take (i + 1)) ∧ doneN z.no (s.take (i + 1)) ≤ ((i + 1 : Nat) : Int) * 1099511627776 := fun z hz => by
                have h1 := HD.out z hz
                rw [HNX.out z hz]
                push_cast
                split <;> omega
              have HF := hide (And.intro hBF.drew.drew (And.intro hMF.drew.drew (And.intro (hKF.bel (Below.refl _ _).drew |>.bel (Below.refl _ _).drew) hDF)))
              have HWF := hide hwf
              clear hnew hap hBF hMF hKF hDF hwf hd1 hd2 hxu hud hin HB5 HM5 HK5 HNX HD HK HM HB
              generalize lfAt s i y = L at *
              go_wp2_with fail
              refine wp_still_all (by kernel_rfl) (by kernel_rfl) ?_
              repeat (first | ((with_reducible refine wpStill_step (fun K hK => ?_)); go_simp; (try go_bits); (with_reducible refine hK _ ?_); clear hK K) | ((with_reducible refine wpStill_step (fun K hK => ?_)); go_simp; rw [if_neg (by simp [undef])]; (with_reducible refine hK _ ?_); clear hK K))
              (with_reducible refine wpStill_nil ?_)
              go_wp2_with fail
              refine wp_still_tail 10 (by kernel_rfl) (by kernel_rfl) ?_
              simp only [List.take_succ_cons, List.take_zero, List.drop_succ_cons, List.drop_zero]
              repeat ((with_reducible refine wpStill_step (fun K hK => ?_)); go_simp; (try go_bits); (with_reducible refine hK _ ?_); clear hK K)
              (with_reducible refine wpStill_nil ?_)
              go_wp2
              rw [HWF.out]
              go_roundw
              case rel => exact ⟨i + 1, x.u, by omega, by go_num, rfl, H, HF.out.2.2.2, HF.out.2.1, HF.out.2.2.1, HF.out.1⟩
              case measure => simp [nI]; omega
        · obtain rfl : i = s.length := by omega
          have hq := HQ.out
          rw [List.drop_length] at hq
          have hacc : accGo l 0 s = true := hq
          have HA : Hid (RR = l.all fun j => decide (lfAt s s.length j = 0)) := hide (by
            rw [HR.out, hacc, Bool.true_and]
            congr 1
            funext j
            unfold lfAt
            rw [List.take_length, Bool.eq_iff_iff, decide_eq_true_eq, decide_eq_true_eq]
            omega)
          obtain ⟨wo, hwo⟩ : ∃ x, x = wr := ⟨_, rfl⟩
          subst hwo
          obtain ⟨D, hown, hm⟩ := HM.out
          have hsz := hown.size_le
          have HB5 := hide HB.out
          have HK5 := hide HK.out
          have hml := hown.lt
          have hwz := HB.out.size
          generalize lfAt s s.length = lf at *
          clear hq hacc HQ HD HM HK HB HR
          go_wp2_with (at_range; refine wpList_range_own _ rfl _ 68 rfl 3 69 (int_keyed Try.underlying3) Try.underlying68 _ w1.heap.size _ D rfl hown ?_; intro w0 hrg0 hg0 hs0)
          go_frame
          go_loopw [] (fun wr => ∃ (left : Lit → Bool) (cnt : Nat), wr.ranges Try.prog 3 anyElem w1.heap.size wo.heap.size l.length D left cnt ∧ (∀ kl, left kl = true → Maps.has D kl = true) ∧ Hid (∀ x ∈ l, left (kI x.no) = false → lf x = 0) ∧ Hid (TkN wr w.heap.size l ad lf) ∧ Hid (Below w.heap.size w wr)) (fun wr => wr.rangeLeft w1.heap.size wo.heap.size)
          case atStart =>
            refine ⟨_, _, hrg0, fun _ h => h, hide (fun x hx h => ?_), hide (HK5.out.grown hg0 (fun x hx => by simp)), hide (HB5.out.grown hg0 hwz (fun k hk => by cases hk))⟩
            have h1 := (hm x.no).1
            rw [h, byNo_mem HP.out hx] at h1
            cases h1
          case round =>
            obtain ⟨left, cnt, hrg, hlh, HLF, HK, HB⟩ := hrel
            have hlo : ∀ x ∈ l, ad x.no < wo.heap.size := fun x hx => (HK5.out.blk x hx).lt
            have HLO := hide hlo
            clear hrg0 hg0 hs0 HK5 HB5 hown hlo
            go_wp2_with (at_next; refine wpList_next_ranges _ rfl _ rfl 3 (int_keyed Try.underlying3) anyElem (Value.int .i64) id (fun key kl hkey => by obtain ⟨x, rfl, _⟩ := Maps.keyOf_int_inv Try.underlying3 hkey; exact ⟨x, rfl⟩) (fun v y _ => ⟨v, rfl⟩) w1.heap.size wo.heap.size l.length D left cnt rfl hrg ?_ ?_)
            · intro hc0 hl0
              have hRR : RR = true := by
                rw [HA.out, List.all_eq_true]
                exact fun x hx => decide_eq_true (HLF.out x hx (hl0 _))
              have HRR := hide hRR
              clear hRR HA hrg hlh HLF hl0 hm
              go_wp2
              exact bodyPost_ret (v := .tuple #[.bool true, .int .i64 0]) (by simp [results, Try.results25, go_sem]) rfl ⟨by rw [HRR.out], HB.out⟩
            · intro x c' kl y1 y2 w3 cnt' hkey hlk hy hat hrg1 hlt hg1 hs1 hen
              obtain ⟨x', ex, rfl, hwx⟩ := Maps.keyOf_int_inv Try.underlying3 hkey
              cases ex
              have hhx : Maps.has D (kI x) = true := hlh _ hlk
              have hh2 := (hm x).1
              rw [hhx] at hh2
              obtain ⟨y, hyj⟩ : ∃ y, jobOf l x = some y := by
                unfold byNo at hh2
                cases hj : jobOf l x with
                | none => rw [hj] at hh2; cases hh2
                | some y => exact ⟨y, rfl⟩
              obtain ⟨hym, hyn⟩ := jobOf_some hyj
              have hc' : c' = .pointer (some ⟨ad y.no, 0, none⟩) := by
                have e1 := hat (.held (.pointer none))
                have e2 := (hm x).2 (.pointer none)
                rw [show byNo (adV ad) l x = some (.pointer (some ⟨ad y.no, 0, none⟩)) by unfold byNo; rw [hyj]; rfl] at e2
                simp only [kI] at e2
                rw [e1] at e2
                simp only [anyElem, Option.some.injEq, Prod.mk.injEq] at hy
                rw [← hy.1] at e2
                simpa using e2
              subst hc'
              have hK3 : TkN w3 w.heap.size l ad lf := HK.out.grown hg1 (fun z hz e => by have := HLO.out z hz; have := Option.some.inj e; omega)
              have hB3 : Below w.heap.size w w3 := HB.out.grown hg1 HB.out.size (fun k hk => by cases hk; omega)
              have hL : ∀ kl, (left kl && !kl.sameKey (.int .i64 x)) = true → Maps.has D kl = true := fun kl h => by
                rw [Bool.and_eq_true] at h; exact hlh kl h.1
              have t5 := (hK3.blk y hym).cell (v := .int .i64 (lf y)) 5 rfl
              have tl := (hK3.blk y hym).lt
              have HK3 := hide hK3
              have HB3 := hide hB3
              have HL := hide hL
              have HM := hide hrg
              have HRG := hide hrg1
              have HYM := hide hym
              have HYN := hide hyn
              clear hK3 hB3 hL hrg hrg1 hym hyn hyj hh2 hhx hat hy hkey hlk hwx hlh hm
              by_cases hz : lf y = 0
              · have gz : (lf y != 0) = false := by simp [hz]
                have HS : Hid (∀ z ∈ l, (left (kI z.no) && !(kI z.no).sameKey (.int .i64 x)) = false → lf z = 0) := hide (fun z hzm h => by
                  have e1 : (kI z.no).sameKey (.int .i64 x) = decide (z.no = x) := by simp [kI, Lit.sameKey]
                  rw [e1] at h
                  by_cases e : z.no = x
                  · rw [no_inj HP.out hzm HYM.out (by rw [e, HYN.out])]; exact hz
                  · exact HLF.out z hzm (by simpa [e] using h))
                clear hz
                go_wp2
                go_roundw
                case rel => exact ⟨_, cnt', HRG.out, HL.out, HS, HK3, HB3⟩
                case measure => rw [HRG.out.left_eq, HM.out.left_eq]; exact hlt
              · have gz : (lf y != 0) = true := by simpa using hz
                have hRR : RR = false := by
                  rw [HA.out, List.all_eq_false]
                  exact ⟨y, HYM.out, by simpa using hz⟩
                have HRR := hide hRR
                clear hz hRR
                go_wp2
                exact bodyPost_ret (v := .tuple #[.bool false, .int .i64 0]) (by simp [results, Try.results25, go_sem]) rfl ⟨by rw [HRR.out], HB3.out⟩
end Go.Proofs.Ytbkokljelopcnaa
namespace Go.Proofs.Ytbkokljelopcnaa
open Go.RowKit Go.Mine Go.Mine.Q
set_option maxHeartbeats 4000000 in
theorem accepts26 (A : Option Addr) (c : Nat) (l : List Jb) (B : Option Addr) (d : Nat) (s : List Sx) (w : World) (hS : Sl jbC 5 w A c l) (hT0 : Sl sxC 3 w B d s) (hs : s.length ≤ 1000) :
    Calls Try.prog 26 #[.slice A l.length c, .slice B s.length d] w fun e w' => e = .returned (.tuple #[.bool (accR l s).1, .int .i64 (accR l s).2]) ∧ Below w.heap.size w w' := by
  by_cases hz : chk l = 0
  · have := accepts26_good A c l B d s w hS hT0 hz hs
    unfold accR; rw [if_pos hz]; exact this
  · have K := hide (check28 A c l w hS)
    have gz : (chk l != 0) = true := by simpa using hz
    unfold accR
    rw [if_neg hz]
    generalize chk l = z at K gz ⊢
    clear hS hT0 hz
    go_enter Try.func26, Try.ntmps26
    go_wp2_with fail
    refine K.out.mono ?_
    rintro e w1 ⟨rfl, hb⟩
    go_wp2
    exact bodyPost_ret (v := .tuple #[.bool false, .int .i64 z]) (by simp [results, Try.results26, go_sem]) rfl ⟨rfl, hb⟩
set_option maxHeartbeats 4000000 in
theorem accepts25 (A : Option Addr) (c : Nat) (l : List Jb) (B : Option Addr) (d : Nat) (s : List Sx) (w : World) (hS : Sl jbC 5 w A c l) (hT0 : Sl sxC 3 w B d s) (hs : s.length ≤ 1000) (hI : ∀ x ∈ s, I64 x.no) :
    Calls Try.prog 25 #[.slice A l.length c, .slice B s.length d] w fun e w' => e = .returned (.tuple #[.bool (accR l s).1, .int .i64 (accR l s).2]) ∧ Below w.heap.size w w' := by
  by_cases hz : chk l = 0
  · have := accepts25_good A c l B d s w hS hT0 hz hs hI
    unfold accR; rw [if_pos hz]; exact this
  · have K := hide (check27 A c l w hS)
    have gz : (chk l != 0) = true := by simpa using hz
    unfold accR
    rw [if_neg hz]
    generalize chk l = z at K gz ⊢
    clear hS hT0 hz hI
    go_enter Try.func25, Try.ntmps25
    go_wp2_with fail
    refine K.out.mono ?_
    rintro e w1 ⟨rfl, hb⟩
    go_wp2
    exact bodyPost_ret (v := .tuple #[.bool false, .int .i64 z]) (by simp [results, Try.results25, go_sem]) rfl ⟨rfl, hb⟩
end Go.Proofs.Ytbkokljelopcnaa
