/-
  BudgetsPath, walked.
-/
import Derived.Test.YtklndmnhhakmiaaBPath
namespace Go.Proofs.Ytklndmnhhakmiaa
open Go.RowKit Go.Mine Go.Mine.B
attribute [local go_sem] Oper.semAt_some
theorem nilSl {α : Type} (f : α → List Value) (sz : Nat) (w : World) : Sl f sz w none 0 ([] : List α) := ⟨by simp, by decide, by simp, fun h => absurd rfl h⟩
theorem path_right {b : List Bu} {x : Tr} {k : TypeId} (A : Option Addr) (c : Nat) (W : World) (hS : Sl buC 5 W A c b) :
    Calls Try.prog 23 #[.slice A b.length c, .slice (some ⟨W.heap.size, 0, none⟩) 1 1, .slice none 0 0] (W.alloc (.cells (trC x).toArray k)) fun e w' => e = .returned (.bool (rightL b [x] [])) ∧ Below (W.alloc (.cells (trC x).toArray k)).heap.size (W.alloc (.cells (trC x).toArray k)) w' := by
  have h := right23 A c b (some ⟨W.heap.size, 0, none⟩) 1 [x] none 0 [] (W.alloc (.cells (trC x).toArray k)) (hS.bel (kalloc (Below.refl _ _) _)) (blit trC 7 W k [x] 1 (by simp) rfl (fun _ _ => rfl) rfl (by decide)) (nilSl ic 1 _)
  exact h
theorem pathR_ok {y : Bu} {s : Nat} (h : rightB y = true) (hs : s < 4) : pathR y (s : Int) = (path y.q (s : Int), 0) := by
  unfold pathR
  rw [if_pos h, if_pos (inR_iff.2 ⟨by omega, by omega⟩)]
set_option maxRecDepth 100000 in
set_option maxHeartbeats 8000000 in
theorem path_yes (A : Option Addr) (c : Nat) (b : List Bu) (x : Tr) (w : World) (hS : Sl buC 5 w A c b) (hI : ∀ x ∈ b, BuS x) (hx : TrS x) (hr : rightL b [x] [] = true) :
    Calls Try.prog 8 #[.slice A b.length c, trV x] w fun e w' => e = .returned (.bool true) ∧ Below w.heap.size w w' := by
  obtain ⟨_, _, hz⟩ := rightL_parts hr
  obtain ⟨hcb, hbl, hll⟩ := chk_zero' hz
  obtain ⟨h1, h2, h3, h4⟩ := chkB_parts hcb
  have h3x := h3 x (by simp)
  obtain ⟨r1, r2, hne, rs, rm1, rm2⟩ := rightT_parts h3x
  have ha : argA x.at_ x.known = true := by
    simp only [rightT, Bool.and_eq_true] at h3x
    unfold argA; rw [h3x.1.1.1.1.1.1.2, h3x.1.1.1.1.1.2]; rfl
  obtain ⟨s0, hs0⟩ : ∃ s : Nat, x.stg = (s : Int) := ⟨x.stg.toNat, by have := rs.1; omega⟩
  have hs04 : s0 < 4 := by have := rs.2; omega
  obtain ⟨i, yf, e1, hyf, hf⟩ := ixGo_at (l := b) (n := 0) (p := fun y : Bu => decide (y.lang = x.fr)) r1
  obtain ⟨k, yt, e2, hyt, ht⟩ := ixGo_at (l := b) (n := 0) (p := fun y : Bu => decide (y.lang = x.to)) r2
  replace hf := of_decide_eq_true hf
  replace ht := of_decide_eq_true ht
  rw [Nat.zero_add] at e1 e2
  have hik : i ≠ k := fun e => hne (by rw [← hf, ← ht]; exact (lang_at h2 hyf hyt).2 e)
  have HPT := hide (fun (j s : Nat) (y : Bu) (hj : b[j]? = some y) (hs : s < 4) => path_at hcb hyf hf hyt ht hj hs)
  have KS := hide (sane14 (w.alloc (.cells (trC x).toArray 40)))
  have K23 := hide (fun W (h : Below w.heap.size w W) => path_right (b := b) (x := x) (k := 40) A c W (hS.bel h))
  rw [hr] at K23
  have K3 := hide (fun W C (h : Below w.heap.size w W) (hm : Sl trC 7 W C 1 [x]) => standing20 A c b C 1 [x] x.at_ x.known W (hS.bel h) hm (BuS.all hI) (fun z hz => by simp at hz; subst hz; exact ⟨hx.2.2.2.2.1, hx.2.2.2.2.2.1⟩))
  rw [(stand_ok hz ha).1, (stand_ok hz ha).2, show standing b [x] x.at_ x.known = viewB b (perf (ofB b) x) from by unfold standing; rw [fin_single]] at K3
  have KX := hide (fun W => blit (cs := (trC x).toArray) trC 7 W 40 [x] 1 (by simp) rfl (fun _ _ => rfl) rfl (by decide))
  have HLl := hide (view_len b (perf (ofB b) x))
  have HLa := hide (show ∀ (j : Nat) (y : Bu), b[j]? = some y → (viewB b (perf (ofB b) x))[j]? = some ⟨y.lang, (perf (ofB b) x y.lang).getD q0⟩ from fun j y hj => by unfold viewB; rw [List.getElem?_map, hj]; rfl)
  have HPO := hide (okP_perf (okP_of h1) (x := x) rm1)
  have HPG := hide (fun n => okP_get HPO.out n)
  have KP1 := hide (fun (y : Bu) (hy : y ∈ b) (s : Nat) (hs : s < 4) W => (show Calls Try.prog 16 #[buV y, .int .i64 (s : Int)] W (fun e w' => e = .returned (.tuple #[.int .i64 (path y.q (s : Int)), .int .i64 0]) ∧ Below W.heap.size W w') from by have k := path16 y (s : Int) W; rw [pathR_ok (h1 y hy) hs] at k; exact k))
  have KP2 := hide (fun (y : Bu) (hy : y ∈ b) (s : Nat) (hs : s < 4) W => (show Calls Try.prog 16 #[buV ⟨y.lang, (perf (ofB b) x y.lang).getD q0⟩, .int .i64 (s : Int)] W (fun e w' => e = .returned (.tuple #[.int .i64 (path ((perf (ofB b) x y.lang).getD q0) (s : Int)), .int .i64 0]) ∧ Below W.heap.size W w') from by have k := path16 ⟨y.lang, (perf (ofB b) x y.lang).getD q0⟩ (s : Int) W; rw [pathR_ok (ok_right (HPG.out _) (rightB_ok (h1 y hy)).2) hs] at k; exact k))
  have HRB := hide (fun y (hy : y ∈ b) => (rightB_ok (h1 y hy)).1)
  have KF := hide (fun w3 (h : Below w.heap.size w w3) (z : BW w3) => (show Calls Try.prog 24 #[.slice A b.length c, .int .i64 x.fr] z.world (fun e w' => e = .returned (.int .i64 (i : Int)) ∧ z.world = w') from by have k := index24 A c b x.fr z.world ((hS.bel h).bel z.below); rw [e1] at k; exact k))
  have KT := hide (fun w3 (h : Below w.heap.size w w3) (z : BW w3) => (show Calls Try.prog 24 #[.slice A b.length c, .int .i64 x.to] z.world (fun e w' => e = .returned (.int .i64 (k : Int)) ∧ z.world = w') from by have k := index24 A c b x.to z.world ((hS.bel h).bel z.below); rw [e2] at k; exact k))
  have il : i < b.length := (List.getElem?_eq_some_iff.1 hyf).1
  have kl : k < b.length := (List.getElem?_eq_some_iff.1 hyt).1
  have bF := okQ_get (rightB_ok (h1 yf (List.mem_of_getElem? hyf))).1 x.stg
  have bT := okQ_get (rightB_ok (h1 yt (List.mem_of_getElem? hyt))).1 x.stg
  obtain ⟨_, g, off, _, _, rfl, hgw, _⟩ := Sl.bu_at hS il
  have HS := hide hS
  have hlb := hS.le
  have hmb := hS.max
  have HY := hide (And.intro hyf hyt)
  have X0 := hide (Blk.new w (trC x).toArray 40)
  have HB0 := hide (kalloc (Below.refl w.heap.size w) (.cells (trC x).toArray 40))
  generalize perf (ofB b) x = p at *
  generalize viewB b p = L at *
  have gl : ((L.length : Int) != (b.length : Int)) = false := by simp [HLl.out]
  clear hS hI hx hr hz hcb hll h1 h2 h3 h4 h3x r1 r2 hne rs ha e1 e2 hf ht hyf hyt HPO
  obtain ⟨x1, x2, x3, x4, x5, x6, x7⟩ := x
  simp only at hs0 rm1 rm2 bF bT
  subst hs0
  simp only [trV, trC] at *
  go_enter Try.func8, Try.ntmps8
  go_wp2_with fail
  refine KS.out.mono ?_
  rintro e w1 ⟨rfl, hb⟩
  have HB1 := hide (kcall HB0.out hb)
  have X1 := hide (X0.out.bel hb)
  clear hb KS HB0 X0
  have hxl := X1.out.lt
  have c0 := X1.out.cell (v := .int .i64 x1) 0 rfl
  have c1 := X1.out.cell (v := .int .i64 x2) 1 rfl
  have c2 := X1.out.cell (v := .int .i64 x3) 2 rfl
  have c3 := X1.out.cell (v := .int .i64 (s0 : Int)) 3 rfl
  have c4 := X1.out.cell (v := .int .i64 x5) 4 rfl
  have c5 := X1.out.cell (v := .int .i64 x6) 5 rfl
  have c6 := X1.out.cell (v := .int .i64 x7) 6 rfl
  go_wp2_with fail
  refine (K23.out _ HB1.out).mono ?_
  rintro e w2 ⟨rfl, hb⟩
  have HB2 := hide (kcall (kalloc HB1.out (.cells #[.int .i64 x1, .int .i64 x2, .int .i64 x3, .int .i64 (s0 : Int), .int .i64 x5, .int .i64 x6, .int .i64 x7] 40)) hb)
  have HSx := hide ((KX.out w1).bel hb)
  have X2 := hide ((X1.out.alloc (.cells #[.int .i64 x1, .int .i64 x2, .int .i64 x3, .int .i64 (s0 : Int), .int .i64 x5, .int .i64 x6, .int .i64 x7] 40)).bel hb)
  clear hb K23 HB1 KX X1 c0 c1 c2 c3 c4 c5 c6 hxl
  have hxl := X2.out.lt
  have c1 := X2.out.cell (v := .int .i64 x2) 1 rfl
  have c2 := X2.out.cell (v := .int .i64 x3) 2 rfl
  go_wp2_with fail
  refine (K3.out _ _ HB2.out HSx.out).mono ?_
  rintro e w3 ⟨A9, c9, rfl, h9, hb⟩
  have HB3 := hide (kcall HB2.out hb)
  have H9 := hide h9
  have h9l := h9.le
  have h9m := h9.max
  have X3 := hide (X2.out.bel hb)
  clear h9 hb K3 HB2 HSx X2 c1 c2 hxl
  have hxl := X3.out.lt
  have k4 := X3.out.bw 4 (v := .int .i64 x5) rfl
  have k5 := X3.out.bw 5 (v := .int .i64 x6) rfl
  have KF2 := hide (KF.out w3 HB3.out)
  have KT2 := hide (KT.out w3 HB3.out)
  clear KF KT
  go_wp2_with fail
  refine wp_quiet_below (by kernel_rfl) (by kernel_rfl) ?_
  repeat (go_big_quiet_step (first | (go_at_call 24; with_reducible exact quiet_same (KF2.out _)) | (go_at_call 24; with_reducible exact quiet_same (KT2.out _))))
  refine wpQuiet_nil ?_
  rintro _ ⟨z, rfl⟩
  have HB4 := hide (kcall HB3.out z.below)
  have H9 := hide (H9.out.bel z.below)
  have X4 := hide (X3.out.bel z.below)
  clear k4 k5 KF2 KT2 HB3 X3 hxl
  generalize z.world = w4 at *
  have hxl := X4.out.lt
  have d3 := X4.out.cell (v := .int .i64 (s0 : Int)) 3 rfl
  have d6 := X4.out.cell (v := .int .i64 x7) 6 rfl
  have f0 := bu_q (HS.out.bel HB4.out) HY.out.1 hs04
  have t0 := bu_q (HS.out.bel HB4.out) HY.out.2 hs04
  have hgw4 : g < w4.heap.size := Nat.lt_of_lt_of_le hgw HB4.out.size
  have iz : (i : Int) < (b.length : Int) := by omega
  have kz : (k : Int) < (b.length : Int) := by omega
  have hs4z : (s0 : Int) < 4 := by omega
  unfold most at *
  have hadd : IntKind.i64.wrap (qg yt.q (s0 : Int) + x7) = qg yt.q (s0 : Int) + x7 := by rw [IntKind.wrap_i64]; omega
  have HBB := hide (And.intro bF (And.intro bT (And.intro rm1 rm2)))
  clear bF bT rm2
  generalize qg yf.q (s0 : Int) = fs at *
  generalize qg yt.q (s0 : Int) = ts at *
  obtain ⟨R, hR⟩ : ∃ R : Bool, (decide (x7 ≤ fs) && decide (ts + x7 ≤ 1073741824)) = R := ⟨_, rfl⟩
  rw [hR] at HPT
  have hcase : (decide (x7 ≤ fs) = false ∧ R = false) ∨ (decide (x7 ≤ fs) = true ∧ decide (ts + x7 ≤ 1073741824) = false ∧ R = false) ∨ (decide (x7 ≤ fs) = true ∧ decide (ts + x7 ≤ 1073741824) = true ∧ R = true) := by
    subst hR
    cases decide (x7 ≤ fs) <;> cases decide (ts + x7 ≤ 1073741824) <;> simp
  clear hR
  rcases hcase with ⟨g1, rfl⟩ | ⟨g1, g2, rfl⟩ | ⟨g1, g2, rfl⟩
  · go_wp2_with fail
    refine wp_still_all (by kernel_rfl) (by kernel_rfl) ?_
    repeat ((with_reducible refine wpStill_step (fun K hK => ?_)); go_simp; (try go_bits); (with_reducible refine hK _ ?_); clear hK K)
    (with_reducible refine wpStill_nil ?_)
    have HB5 := hide HB4.out.drew
    have H95 := hide H9.out.drew
    have X5 := hide X4.out.drew
    clear HB4 H9 X4 d3 d6 f0 t0 hxl hgw4 hadd g1
    generalize w4.drew = w5 at *
    go_wp2
    go_loopw [11, 12, 13, 14, 15, 16, 17, 18, 19, 82, 87] (fun _ _ _ _ _ _ _ _ _ i _ wr => ∃ j : Nat, j ≤ b.length ∧ i = .int .i64 j ∧ Hid (Below w5.heap.size w5 wr)) (fun _ _ _ _ _ _ _ _ _ i _ _ => b.length - (nI i).toNat)
    case atStart => exact ⟨0, Nat.zero_le _, rfl, Below.refl _ _⟩
    case round =>
      obtain ⟨j, hj, rfl, HB⟩ := hrel
      by_cases hltj : j < b.length
      · obtain ⟨y, gy, offy, hy, _, hAA, hgy, p0, p1, p2, p3, p4⟩ := Sl.bu_at (HS.out.bel (kcall HB5.out HB.out)) hltj
        cases hAA
        have hym := List.mem_of_getElem? hy
        have jz : (j : Int) < (b.length : Int) := by omega
        have jz9 : (j : Int) < (L.length : Int) := by have := HLl.out; omega
        have HLj := hide (HLa.out j y hy)
        have KP1j := hide (fun s hs => KP1.out y hym s hs)
        have KP2j := hide (fun s hs => KP2.out y hym s hs)
        have HPTj := hide (fun s hs => HPT.out j s y hy hs)
        have okY := hide (HRB.out y hym)
        have okP' := hide (HPG.out y.lang)
        generalize (p y.lang).getD q0 = q' at *
        have XB := hide (Blk.new wr (buC y).toArray 26)
        have HBa := hide (kalloc HB.out (.cells (buC y).toArray 26))
        obtain ⟨yn, yq⟩ := y
        simp only [buV, buC] at *
        clear hy hym HB KP1 KP2 HPT HRB HPG HLa
        go_wp2
        clear p0 p1 p2 p3 p4
        go_loopw [13, 14, 15, 16, 17, 18, 19, 87] (fun v13 _ _ _ _ _ _ i wr2 => ∃ s : Nat, s ≤ 4 ∧ i = .int .i64 s ∧ v13 = .int .i64 (psum yq s) ∧ Hid (Blk wr2 wr.heap.size 26 #[.int .i64 yn, .int .i64 yq.1, .int .i64 yq.2.1, .int .i64 yq.2.2.1, .int .i64 yq.2.2.2]) ∧ Hid (Below w5.heap.size w5 wr2)) (fun _ _ _ _ _ _ _ i _ => 4 - (nI i).toNat)
        case atStart => exact ⟨0, Nat.zero_le _, rfl, rfl, XB, HBa⟩
        case round =>
          clear XB HBa
          obtain ⟨s, hs, rfl, rfl, XB, HBa⟩ := hrel
          by_cases hs4 : s < 4
          · have hsz : (s : Int) < 4 := by omega
            have hpn : path yq (s : Int) = psum yq (s + 1) := by unfold psum; rw [if_neg (by omega), show ((s + 1 : Nat) : Int) - 1 = (s : Int) by omega]
            have hps := psum_next yq hs4
            have bb := psum_ok okY.out (s + 1)
            have K1 := hide (KP1j.out s hs4)
            have K2 := hide (KP2j.out s hs4)
            have hU := HPTj.out s hs4
            have bU := path_ok okP'.out (s : Int)
            try simp only at hU bb
            have hbx := XB.out.lt
            have b0 := XB.out.cell (v := .int .i64 yn) 0 rfl
            have b1 := XB.out.cell (v := .int .i64 yq.1) 1 rfl
            have b2 := XB.out.cell (v := .int .i64 yq.2.1) 2 rfl
            have b3 := XB.out.cell (v := .int .i64 yq.2.2.1) 3 rfl
            have b4 := XB.out.cell (v := .int .i64 yq.2.2.2) 4 rfl
            have HBQ := hide (buC_get ⟨yn, yq⟩ s hs4)
            try simp only [buC] at HBQ
            generalize path q' (s : Int) = u at *
            generalize path yq (s : Int) = v at *
            have HVN := hide hpn
            rw [hps] at hpn bb
            have hw : IntKind.i64.wrap (psum yq s + qg yq (s : Int)) = v := by rw [IntKind.wrap_i64]; omega
            have HBD := hide (And.intro bb (And.intro bU (And.intro hps hpn)))
            rw [← hpn] at bb
            clear hps hpn
            generalize psum yq s = u0 at *
            generalize qg yq (s : Int) = qv at *
            have hU2 : u = v := by rw [hU]; simp [pathT]
            clear hU
            subst hU2
            go_wp2_with fail
            refine (K1.out _).mono ?_
            rintro e wa ⟨rfl, hb⟩
            have HBb := hide (kcall HBa.out hb)
            have XB1 := hide (XB.out.bel hb)
            clear hb K1 b0 b1 b2 b3 b4 hbx
            obtain ⟨y3, g9, off9, hy3, _, rfl, hg9, r0, r1, r2, r3, r4⟩ := Sl.bu_at (H95.out.bel HBb.out) (show j < L.length by have := HLl.out; omega)
            obtain rfl : y3 = ⟨yn, q'⟩ := by rw [HLj.out] at hy3; exact (Option.some.inj hy3).symm
            simp only at r0 r1 r2 r3 r4
            clear hy3
            go_wp2_with fail
            refine (K2.out _).mono ?_
            rintro e wb ⟨rfl, hb⟩
            have HBc := hide (kcall HBb.out hb)
            have XB2 := hide (XB1.out.bel hb)
            clear hb K2 r0 r1 r2 r3 r4 hg9 HBb XB1
            have bq := XB2.out.cell (1 + s) HBQ.out
            have X6 := X5.out.bel HBc.out
            have d3 := X6.cell (v := .int .i64 (s0 : Int)) 3 rfl
            have d6 := X6.cell (v := .int .i64 x7) 6 rfl
            have hxl := X6.lt
            have hbx := XB2.out.lt
            clear X6
            go_wp2
            go_roundw
            case rel => exact ⟨s + 1, by omega, by go_num, by rw [HVN.out], XB2, HBc⟩
            case measure => simp [nI]; omega
          · obtain rfl : s = 4 := by omega
            go_wp2
            go_roundw
            case rel => exact ⟨j + 1, by omega, by go_num, HBa⟩
            case measure => simp [nI]; omega
      · obtain rfl : j = b.length := by omega
        go_wp2
        go_ret
        exact ⟨rfl, kcall HB5.out HB.out⟩
  · go_wp2_with fail
    refine wp_still_all (by kernel_rfl) (by kernel_rfl) ?_
    repeat ((with_reducible refine wpStill_step (fun K hK => ?_)); go_simp; (try go_bits); (with_reducible refine hK _ ?_); clear hK K)
    (with_reducible refine wpStill_nil ?_)
    have HB5 := hide HB4.out.drew
    have H95 := hide H9.out.drew
    have X5 := hide X4.out.drew
    clear HB4 H9 X4 d3 d6 f0 t0 hxl hgw4 hadd g1
    generalize w4.drew = w5 at *
    go_wp2
    go_loopw [11, 12, 13, 14, 15, 16, 17, 18, 19, 82, 87] (fun _ _ _ _ _ _ _ _ _ i _ wr => ∃ j : Nat, j ≤ b.length ∧ i = .int .i64 j ∧ Hid (Below w5.heap.size w5 wr)) (fun _ _ _ _ _ _ _ _ _ i _ _ => b.length - (nI i).toNat)
    case atStart => exact ⟨0, Nat.zero_le _, rfl, Below.refl _ _⟩
    case round =>
      obtain ⟨j, hj, rfl, HB⟩ := hrel
      by_cases hltj : j < b.length
      · obtain ⟨y, gy, offy, hy, _, hAA, hgy, p0, p1, p2, p3, p4⟩ := Sl.bu_at (HS.out.bel (kcall HB5.out HB.out)) hltj
        cases hAA
        have hym := List.mem_of_getElem? hy
        have jz : (j : Int) < (b.length : Int) := by omega
        have jz9 : (j : Int) < (L.length : Int) := by have := HLl.out; omega
        have HLj := hide (HLa.out j y hy)
        have KP1j := hide (fun s hs => KP1.out y hym s hs)
        have KP2j := hide (fun s hs => KP2.out y hym s hs)
        have HPTj := hide (fun s hs => HPT.out j s y hy hs)
        have okY := hide (HRB.out y hym)
        have okP' := hide (HPG.out y.lang)
        generalize (p y.lang).getD q0 = q' at *
        have XB := hide (Blk.new wr (buC y).toArray 26)
        have HBa := hide (kalloc HB.out (.cells (buC y).toArray 26))
        obtain ⟨yn, yq⟩ := y
        simp only [buV, buC] at *
        clear hy hym HB KP1 KP2 HPT HRB HPG HLa
        go_wp2
        clear p0 p1 p2 p3 p4
        go_loopw [13, 14, 15, 16, 17, 18, 19, 87] (fun v13 _ _ _ _ _ _ i wr2 => ∃ s : Nat, s ≤ 4 ∧ i = .int .i64 s ∧ v13 = .int .i64 (psum yq s) ∧ Hid (Blk wr2 wr.heap.size 26 #[.int .i64 yn, .int .i64 yq.1, .int .i64 yq.2.1, .int .i64 yq.2.2.1, .int .i64 yq.2.2.2]) ∧ Hid (Below w5.heap.size w5 wr2)) (fun _ _ _ _ _ _ _ i _ => 4 - (nI i).toNat)
        case atStart => exact ⟨0, Nat.zero_le _, rfl, rfl, XB, HBa⟩
        case round =>
          clear XB HBa
          obtain ⟨s, hs, rfl, rfl, XB, HBa⟩ := hrel
          by_cases hs4 : s < 4
          · have hsz : (s : Int) < 4 := by omega
            have hpn : path yq (s : Int) = psum yq (s + 1) := by unfold psum; rw [if_neg (by omega), show ((s + 1 : Nat) : Int) - 1 = (s : Int) by omega]
            have hps := psum_next yq hs4
            have bb := psum_ok okY.out (s + 1)
            have K1 := hide (KP1j.out s hs4)
            have K2 := hide (KP2j.out s hs4)
            have hU := HPTj.out s hs4
            have bU := path_ok okP'.out (s : Int)
            try simp only at hU bb
            have hbx := XB.out.lt
            have b0 := XB.out.cell (v := .int .i64 yn) 0 rfl
            have b1 := XB.out.cell (v := .int .i64 yq.1) 1 rfl
            have b2 := XB.out.cell (v := .int .i64 yq.2.1) 2 rfl
            have b3 := XB.out.cell (v := .int .i64 yq.2.2.1) 3 rfl
            have b4 := XB.out.cell (v := .int .i64 yq.2.2.2) 4 rfl
            have HBQ := hide (buC_get ⟨yn, yq⟩ s hs4)
            try simp only [buC] at HBQ
            generalize path q' (s : Int) = u at *
            generalize path yq (s : Int) = v at *
            have HVN := hide hpn
            rw [hps] at hpn bb
            have hw : IntKind.i64.wrap (psum yq s + qg yq (s : Int)) = v := by rw [IntKind.wrap_i64]; omega
            have HBD := hide (And.intro bb (And.intro bU (And.intro hps hpn)))
            rw [← hpn] at bb
            clear hps hpn
            generalize psum yq s = u0 at *
            generalize qg yq (s : Int) = qv at *
            have hU2 : u = v := by rw [hU]; simp [pathT]
            clear hU
            subst hU2
            go_wp2_with fail
            refine (K1.out _).mono ?_
            rintro e wa ⟨rfl, hb⟩
            have HBb := hide (kcall HBa.out hb)
            have XB1 := hide (XB.out.bel hb)
            clear hb K1 b0 b1 b2 b3 b4 hbx
            obtain ⟨y3, g9, off9, hy3, _, rfl, hg9, r0, r1, r2, r3, r4⟩ := Sl.bu_at (H95.out.bel HBb.out) (show j < L.length by have := HLl.out; omega)
            obtain rfl : y3 = ⟨yn, q'⟩ := by rw [HLj.out] at hy3; exact (Option.some.inj hy3).symm
            simp only at r0 r1 r2 r3 r4
            clear hy3
            go_wp2_with fail
            refine (K2.out _).mono ?_
            rintro e wb ⟨rfl, hb⟩
            have HBc := hide (kcall HBb.out hb)
            have XB2 := hide (XB1.out.bel hb)
            clear hb K2 r0 r1 r2 r3 r4 hg9 HBb XB1
            have bq := XB2.out.cell (1 + s) HBQ.out
            have X6 := X5.out.bel HBc.out
            have d3 := X6.cell (v := .int .i64 (s0 : Int)) 3 rfl
            have d6 := X6.cell (v := .int .i64 x7) 6 rfl
            have hxl := X6.lt
            have hbx := XB2.out.lt
            clear X6
            go_wp2
            go_roundw
            case rel => exact ⟨s + 1, by omega, by go_num, by rw [HVN.out], XB2, HBc⟩
            case measure => simp [nI]; omega
          · obtain rfl : s = 4 := by omega
            go_wp2
            go_roundw
            case rel => exact ⟨j + 1, by omega, by go_num, HBa⟩
            case measure => simp [nI]; omega
      · obtain rfl : j = b.length := by omega
        go_wp2
        go_ret
        exact ⟨rfl, kcall HB5.out HB.out⟩
  · go_wp2_with fail
    refine wp_still_all (by kernel_rfl) (by kernel_rfl) ?_
    repeat ((with_reducible refine wpStill_step (fun K hK => ?_)); go_simp; (try go_bits); (with_reducible refine hK _ ?_); clear hK K)
    (with_reducible refine wpStill_nil ?_)
    have HB5 := hide HB4.out.drew
    have H95 := hide H9.out.drew
    have X5 := hide X4.out.drew
    clear HB4 H9 X4 d3 d6 f0 t0 hxl hgw4 hadd g1
    generalize w4.drew = w5 at *
    go_wp2
    go_loopw [11, 12, 13, 14, 15, 16, 17, 18, 19, 82, 87] (fun _ _ _ _ _ _ _ _ _ i _ wr => ∃ j : Nat, j ≤ b.length ∧ i = .int .i64 j ∧ Hid (Below w5.heap.size w5 wr)) (fun _ _ _ _ _ _ _ _ _ i _ _ => b.length - (nI i).toNat)
    case atStart => exact ⟨0, Nat.zero_le _, rfl, Below.refl _ _⟩
    case round =>
      obtain ⟨j, hj, rfl, HB⟩ := hrel
      by_cases hltj : j < b.length
      · obtain ⟨y, gy, offy, hy, _, hAA, hgy, p0, p1, p2, p3, p4⟩ := Sl.bu_at (HS.out.bel (kcall HB5.out HB.out)) hltj
        cases hAA
        have hym := List.mem_of_getElem? hy
        have jz : (j : Int) < (b.length : Int) := by omega
        have jz9 : (j : Int) < (L.length : Int) := by have := HLl.out; omega
        have HLj := hide (HLa.out j y hy)
        have KP1j := hide (fun s hs => KP1.out y hym s hs)
        have KP2j := hide (fun s hs => KP2.out y hym s hs)
        have HPTj := hide (fun s hs => HPT.out j s y hy hs)
        have okY := hide (HRB.out y hym)
        have okP' := hide (HPG.out y.lang)
        generalize (p y.lang).getD q0 = q' at *
        have XB := hide (Blk.new wr (buC y).toArray 26)
        have HBa := hide (kalloc HB.out (.cells (buC y).toArray 26))
        obtain ⟨yn, yq⟩ := y
        simp only [buV, buC] at *
        clear hy hym HB KP1 KP2 HPT HRB HPG HLa
        go_wp2
        clear p0 p1 p2 p3 p4
        go_loopw [13, 14, 15, 16, 17, 18, 19, 87] (fun v13 _ _ _ _ _ _ i wr2 => ∃ s : Nat, s ≤ 4 ∧ i = .int .i64 s ∧ v13 = .int .i64 (psum yq s) ∧ Hid (Blk wr2 wr.heap.size 26 #[.int .i64 yn, .int .i64 yq.1, .int .i64 yq.2.1, .int .i64 yq.2.2.1, .int .i64 yq.2.2.2]) ∧ Hid (Below w5.heap.size w5 wr2)) (fun _ _ _ _ _ _ _ i _ => 4 - (nI i).toNat)
        case atStart => exact ⟨0, Nat.zero_le _, rfl, rfl, XB, HBa⟩
        case round =>
          clear XB HBa
          obtain ⟨s, hs, rfl, rfl, XB, HBa⟩ := hrel
          by_cases hs4 : s < 4
          · have hsz : (s : Int) < 4 := by omega
            have hpn : path yq (s : Int) = psum yq (s + 1) := by unfold psum; rw [if_neg (by omega), show ((s + 1 : Nat) : Int) - 1 = (s : Int) by omega]
            have hps := psum_next yq hs4
            have bb := psum_ok okY.out (s + 1)
            have K1 := hide (KP1j.out s hs4)
            have K2 := hide (KP2j.out s hs4)
            have hU := HPTj.out s hs4
            have bU := path_ok okP'.out (s : Int)
            try simp only at hU bb
            have hbx := XB.out.lt
            have b0 := XB.out.cell (v := .int .i64 yn) 0 rfl
            have b1 := XB.out.cell (v := .int .i64 yq.1) 1 rfl
            have b2 := XB.out.cell (v := .int .i64 yq.2.1) 2 rfl
            have b3 := XB.out.cell (v := .int .i64 yq.2.2.1) 3 rfl
            have b4 := XB.out.cell (v := .int .i64 yq.2.2.2) 4 rfl
            have HBQ := hide (buC_get ⟨yn, yq⟩ s hs4)
            try simp only [buC] at HBQ
            generalize path q' (s : Int) = u at *
            generalize path yq (s : Int) = v at *
            have HVN := hide hpn
            rw [hps] at hpn bb
            have hw : IntKind.i64.wrap (psum yq s + qg yq (s : Int)) = v := by rw [IntKind.wrap_i64]; omega
            have HBD := hide (And.intro bb (And.intro bU (And.intro hps hpn)))
            rw [← hpn] at bb
            clear hps hpn
            generalize psum yq s = u0 at *
            generalize qg yq (s : Int) = qv at *
            rcases Bool.eq_false_or_eq_true (decide (s0 ≤ s)) with g3 | g3
            · by_cases c1 : j = i
              · have q1 : ((j : Int) == (i : Int)) = true := by simp [c1]
                have q2 : ((j : Int) == (k : Int)) = false := by simp; omega
                have hU2 : u = v - x7 := by rw [hU]; simp [pathT, q2, c1, of_decide_eq_true g3]; omega
                have hw2 : IntKind.i64.wrap (v - x7) = u := by rw [IntKind.wrap_i64]; omega
                have HU2 := hide hU2
                clear hU hU2 c1
                go_wp2_with fail
                refine (K1.out _).mono ?_
                rintro e wa ⟨rfl, hb⟩
                have HBb := hide (kcall HBa.out hb)
                have XB1 := hide (XB.out.bel hb)
                clear hb K1 b0 b1 b2 b3 b4 hbx
                obtain ⟨y3, g9, off9, hy3, _, rfl, hg9, r0, r1, r2, r3, r4⟩ := Sl.bu_at (H95.out.bel HBb.out) (show j < L.length by have := HLl.out; omega)
                obtain rfl : y3 = ⟨yn, q'⟩ := by rw [HLj.out] at hy3; exact (Option.some.inj hy3).symm
                simp only at r0 r1 r2 r3 r4
                clear hy3
                go_wp2_with fail
                refine (K2.out _).mono ?_
                rintro e wb ⟨rfl, hb⟩
                have HBc := hide (kcall HBb.out hb)
                have XB2 := hide (XB1.out.bel hb)
                clear hb K2 r0 r1 r2 r3 r4 hg9 HBb XB1
                have bq := XB2.out.cell (1 + s) HBQ.out
                have X6 := X5.out.bel HBc.out
                have d3 := X6.cell (v := .int .i64 (s0 : Int)) 3 rfl
                have d6 := X6.cell (v := .int .i64 x7) 6 rfl
                have hxl := X6.lt
                have hbx := XB2.out.lt
                clear X6
                go_wp2
                go_roundw
                case rel => exact ⟨s + 1, by omega, by go_num, by rw [HVN.out], XB2, HBc⟩
                case measure => simp [nI]; omega
              · by_cases c2 : j = k
                · have q1 : ((j : Int) == (i : Int)) = false := by simp; omega
                  have q2 : ((j : Int) == (k : Int)) = true := by simp [c2]
                  have hU2 : u = v + x7 := by rw [hU]; simp [pathT, q1, c2, of_decide_eq_true g3]; omega
                  have hw2 : IntKind.i64.wrap (v + x7) = u := by rw [IntKind.wrap_i64]; omega
                  have HU2 := hide hU2
                  clear hU hU2 c1 c2
                  go_wp2_with fail
                  refine (K1.out _).mono ?_
                  rintro e wa ⟨rfl, hb⟩
                  have HBb := hide (kcall HBa.out hb)
                  have XB1 := hide (XB.out.bel hb)
                  clear hb K1 b0 b1 b2 b3 b4 hbx
                  obtain ⟨y3, g9, off9, hy3, _, rfl, hg9, r0, r1, r2, r3, r4⟩ := Sl.bu_at (H95.out.bel HBb.out) (show j < L.length by have := HLl.out; omega)
                  obtain rfl : y3 = ⟨yn, q'⟩ := by rw [HLj.out] at hy3; exact (Option.some.inj hy3).symm
                  simp only at r0 r1 r2 r3 r4
                  clear hy3
                  go_wp2_with fail
                  refine (K2.out _).mono ?_
                  rintro e wb ⟨rfl, hb⟩
                  have HBc := hide (kcall HBb.out hb)
                  have XB2 := hide (XB1.out.bel hb)
                  clear hb K2 r0 r1 r2 r3 r4 hg9 HBb XB1
                  have bq := XB2.out.cell (1 + s) HBQ.out
                  have X6 := X5.out.bel HBc.out
                  have d3 := X6.cell (v := .int .i64 (s0 : Int)) 3 rfl
                  have d6 := X6.cell (v := .int .i64 x7) 6 rfl
                  have hxl := X6.lt
                  have hbx := XB2.out.lt
                  clear X6
                  go_wp2
                  go_roundw
                  case rel => exact ⟨s + 1, by omega, by go_num, by rw [HVN.out], XB2, HBc⟩
                  case measure => simp [nI]; omega
                · have q1 : ((j : Int) == (i : Int)) = false := by simp; omega
                  have q2 : ((j : Int) == (k : Int)) = false := by simp; omega
                  have hU2 : u = v := by rw [hU]; simp [pathT, q1, q2]
                  clear hU c1 c2
                  subst hU2
                  go_wp2_with fail
                  refine (K1.out _).mono ?_
                  rintro e wa ⟨rfl, hb⟩
                  have HBb := hide (kcall HBa.out hb)
                  have XB1 := hide (XB.out.bel hb)
                  clear hb K1 b0 b1 b2 b3 b4 hbx
                  obtain ⟨y3, g9, off9, hy3, _, rfl, hg9, r0, r1, r2, r3, r4⟩ := Sl.bu_at (H95.out.bel HBb.out) (show j < L.length by have := HLl.out; omega)
                  obtain rfl : y3 = ⟨yn, q'⟩ := by rw [HLj.out] at hy3; exact (Option.some.inj hy3).symm
                  simp only at r0 r1 r2 r3 r4
                  clear hy3
                  go_wp2_with fail
                  refine (K2.out _).mono ?_
                  rintro e wb ⟨rfl, hb⟩
                  have HBc := hide (kcall HBb.out hb)
                  have XB2 := hide (XB1.out.bel hb)
                  clear hb K2 r0 r1 r2 r3 r4 hg9 HBb XB1
                  have bq := XB2.out.cell (1 + s) HBQ.out
                  have X6 := X5.out.bel HBc.out
                  have d3 := X6.cell (v := .int .i64 (s0 : Int)) 3 rfl
                  have d6 := X6.cell (v := .int .i64 x7) 6 rfl
                  have hxl := X6.lt
                  have hbx := XB2.out.lt
                  clear X6
                  go_wp2
                  go_roundw
                  case rel => exact ⟨s + 1, by omega, by go_num, by rw [HVN.out], XB2, HBc⟩
                  case measure => simp [nI]; omega
            · have hU2 : u = v := by rw [hU]; simp [pathT]; have := of_decide_eq_false g3; omega
              clear hU
              subst hU2
              go_wp2_with fail
              refine (K1.out _).mono ?_
              rintro e wa ⟨rfl, hb⟩
              have HBb := hide (kcall HBa.out hb)
              have XB1 := hide (XB.out.bel hb)
              clear hb K1 b0 b1 b2 b3 b4 hbx
              obtain ⟨y3, g9, off9, hy3, _, rfl, hg9, r0, r1, r2, r3, r4⟩ := Sl.bu_at (H95.out.bel HBb.out) (show j < L.length by have := HLl.out; omega)
              obtain rfl : y3 = ⟨yn, q'⟩ := by rw [HLj.out] at hy3; exact (Option.some.inj hy3).symm
              simp only at r0 r1 r2 r3 r4
              clear hy3
              go_wp2_with fail
              refine (K2.out _).mono ?_
              rintro e wb ⟨rfl, hb⟩
              have HBc := hide (kcall HBb.out hb)
              have XB2 := hide (XB1.out.bel hb)
              clear hb K2 r0 r1 r2 r3 r4 hg9 HBb XB1
              have bq := XB2.out.cell (1 + s) HBQ.out
              have X6 := X5.out.bel HBc.out
              have d3 := X6.cell (v := .int .i64 (s0 : Int)) 3 rfl
              have d6 := X6.cell (v := .int .i64 x7) 6 rfl
              have hxl := X6.lt
              have hbx := XB2.out.lt
              clear X6
              go_wp2
              go_roundw
              case rel => exact ⟨s + 1, by omega, by go_num, by rw [HVN.out], XB2, HBc⟩
              case measure => simp [nI]; omega
          · obtain rfl : s = 4 := by omega
            go_wp2
            go_roundw
            case rel => exact ⟨j + 1, by omega, by go_num, HBa⟩
            case measure => simp [nI]; omega
      · obtain rfl : j = b.length := by omega
        go_wp2
        go_ret
        exact ⟨rfl, kcall HB5.out HB.out⟩
theorem path_no (A : Option Addr) (c : Nat) (b : List Bu) (x : Tr) (w : World) (hS : Sl buC 5 w A c b) (hr : rightL b [x] [] = false) :
    Calls Try.prog 8 #[.slice A b.length c, trV x] w fun e w' => e = .returned (.bool true) ∧ Below w.heap.size w w' := by
  have KS := hide (sane14 (w.alloc (.cells (trC x).toArray 40)))
  have K23 := hide (fun W (h : Below w.heap.size w W) => path_right (b := b) (x := x) (k := 40) A c W (hS.bel h))
  rw [hr] at K23
  have X0 := hide (Blk.new w (trC x).toArray 40)
  have HB0 := hide (kalloc (Below.refl w.heap.size w) (.cells (trC x).toArray 40))
  clear hS hr
  obtain ⟨x1, x2, x3, x4, x5, x6, x7⟩ := x
  simp only [trV, trC] at *
  go_enter Try.func8, Try.ntmps8
  go_wp2_with fail
  refine KS.out.mono ?_
  rintro e w1 ⟨rfl, hb⟩
  have HB1 := hide (kcall HB0.out hb)
  have X1 := hide (X0.out.bel hb)
  clear hb KS HB0 X0
  have hxl := X1.out.lt
  have c0 := X1.out.cell (v := .int .i64 x1) 0 rfl
  have c1 := X1.out.cell (v := .int .i64 x2) 1 rfl
  have c2 := X1.out.cell (v := .int .i64 x3) 2 rfl
  have c3 := X1.out.cell (v := .int .i64 x4) 3 rfl
  have c4 := X1.out.cell (v := .int .i64 x5) 4 rfl
  have c5 := X1.out.cell (v := .int .i64 x6) 5 rfl
  have c6 := X1.out.cell (v := .int .i64 x7) 6 rfl
  go_wp2_with fail
  refine (K23.out _ HB1.out).mono ?_
  rintro e w2 ⟨rfl, hb⟩
  have HB2 := hide (kcall (kalloc HB1.out (.cells #[.int .i64 x1, .int .i64 x2, .int .i64 x3, .int .i64 x4, .int .i64 x5, .int .i64 x6, .int .i64 x7] 40)) hb)
  clear hb K23 HB1 X1 c0 c1 c2 c3 c4 c5 c6 hxl
  go_wp2
  go_ret
  exact ⟨rfl, HB2.out⟩
theorem budgetsPath_law (A : Option Addr) (c : Nat) (b : List Bu) (x : Tr) (w : World) (hS : Sl buC 5 w A c b) (hI : ∀ x ∈ b, BuS x) (hx : TrS x) :
    Calls Try.prog 8 #[.slice A b.length c, trV x] w fun e w' => e = .returned (.bool true) ∧ Below w.heap.size w w' := by
  rcases Bool.eq_false_or_eq_true (rightL b [x] []) with hr | hr
  · exact path_yes A c b x w hS hI hx hr
  · exact path_no A c b x w hS hr
end Go.Proofs.Ytklndmnhhakmiaa
