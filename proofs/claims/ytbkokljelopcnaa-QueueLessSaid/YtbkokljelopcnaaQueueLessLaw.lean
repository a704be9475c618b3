/-
  QueueLess, walked.
-/
import Derived.Test.YtbkokljelopcnaaJLess
import Derived.BigRegion
import Derived.Deep.RegionHeld3
namespace Go.Proofs.Ytbkokljelopcnaa
open Go.RowKit Go.Mine Go.Mine.Q
attribute [local go_sem] Oper.semAt_some
set_option maxRecDepth 100000 in
set_option maxHeartbeats 8000000 in
theorem queueLess_law (A : Option Addr) (c : Nat) (l : List Jb) (at_ : Nat) (ea la by_ : Int) (w : World) (hS : Sl jbC 5 w A c l) (hat : at_ < 256) (hea : 0 ≤ ea ∧ ea < 4294967296) (hla : 0 ≤ la ∧ la < 4294967296) (hby : 0 ≤ by_ ∧ by_ < 4294967296) :
    Calls Try.prog 5 #[.slice A l.length c, .int .u8 at_, .int .u32 ea, .int .u32 la, .int .u32 by_] w fun e w' => e = .returned (.bool true) ∧ Below w.heap.size w w' := by
  have HB0 := hide (Below.refl w.heap.size w)
  have hlc := hS.le
  have hc := hS.max
  have KS := hide (sane15 w)
  have KF := hide (fun W (h : Below w.heap.size w W) => right21 A c l W (hS.bel h))
  have K1 := hide (fun W (h : Below w.heap.size w W) => run22 A c l W (hS.bel h))
  have HS := hide hS
  have wby : IntKind.i64.wrap by_ = by_ := by rw [IntKind.wrap_i64]; omega
  have wea : IntKind.i64.wrap ea = ea := by rw [IntKind.wrap_i64]; omega
  have wla : IntKind.i64.wrap la = la := by rw [IntKind.wrap_i64]; omega
  unfold RunE at K1
  clear hS
  cases hR : rightR l
  · rw [hR] at KF
    clear hR
    go_enter Try.func5, Try.ntmps5
    go_wp2_with fail
    refine KS.out.mono ?_
    rintro e w1 ⟨rfl, hb⟩
    have HB1 := hide (kcall HB0.out hb)
    clear hb KS
    go_wp2_with fail
    refine (KF.out _ HB1.out).mono ?_
    rintro e w2 ⟨rfl, hb⟩
    have HB2 := hide (kcall HB1.out hb)
    go_wp2
    go_ret
    exact ⟨rfl, HB2.out⟩
  · rw [hR] at KF
    have hz : chk l = 0 := by unfold rightR at hR; simp at hR; exact hR.2
    obtain ⟨hr, h64, hok⟩ := right_of hz
    rw [hz] at K1
    have hrb : runB l = runOk l := by unfold runB; rw [hz]; rfl
    have HR := hide hr
    have HMA := hide (fun h => @moved_all l hz by_ hby.1 h)
    have HLA := hide (fun ho => @less_all l hz ho)
    have HEA := hide (fun ho (k : Nat) (x : Jb) (hx : l[k]? = some x) => @easy_all l hz ho k x hx ea la hea.1 hla.1)
    have HRB := hide (runS_bound hz)
    have HRL := hide (runS_len h64)
    rw [hrb] at K1 HMA
    clear hR hz hr hok hrb
    go_enter Try.func5, Try.ntmps5
    go_wp2_with fail
    refine KS.out.mono ?_
    rintro e w1 ⟨rfl, hb⟩
    have HB1 := hide (kcall HB0.out hb)
    clear hb KS
    go_wp2_with fail
    refine (KF.out _ HB1.out).mono ?_
    rintro e w2 ⟨rfl, hb⟩
    have HB2 := hide (kcall HB1.out hb)
    clear hb KF
    by_cases hne : l = []
    · have gl : (l.length == 0) = true := by simp [hne]
      clear hne
      go_wp2
      go_ret
      exact ⟨rfl, HB2.out⟩
    · have gl : (l.length == 0) = false := by simpa using hne
      have hpos : 0 < l.length := List.length_pos_iff.2 hne
      clear hne
      obtain ⟨_, b, off, _, _, rfl, _⟩ := Sl.jb_at HS.out hpos
      go_wp2_with fail
      refine (K1.out _ HB2.out).mono ?_
      rintro e w3 ⟨A1, c1, rfl, hS1, hb⟩
      have HB3 := hide (kcall HB2.out hb)
      have HS1 := hide hS1
      have hrl := HRL.out
      generalize runS l = s at *
      generalize runOk l = ok at *
      have hs1l := hS1.le
      have hs1m := hS1.max
      obtain ⟨i0, hi, hz0, hz1, hz2⟩ := info_parts Try_info39
      have HI := hide hi
      have hw3 := HB3.out.size
      clear hb hS1 hi
      go_wp2
      go_loopw [14, 52] (fun v14 v52 wr => ∃ (k : Nat), k ≤ l.length ∧ v52 = .int .i64 k ∧ Hid (OwnL jbC 5 39 wr w3.heap.size v14 ((l.take k).map (shJ by_))) ∧ Hid (∀ x ∈ l.take k, x.due + by_ ≤ 1099511627776) ∧ Hid (Below w3.heap.size w3 wr)) (fun _ i _ => l.length - (nI i).toNat)
      case atStart => exact ⟨0, Nat.zero_le _, rfl, OwnL.nil _ _ _ _ _, by intro x hx; simp at hx, Below.refl _ _⟩
      case round =>
        obtain ⟨k, hk, rfl, HO, HD, HBk⟩ := hrel
        by_cases hlt : k < l.length
        · obtain ⟨x, b', off', hx, _, e', hbw, d0, d1, d2, d3, d4⟩ := Sl.jb_at (HS.out.bel (kcall HB3.out HBk.out)) hlt
          cases e'
          have HX := hide (take_of_get hx)
          have hxm := List.mem_of_getElem? hx
          have hxr := rightJ_iff.1 (HR.out x hxm)
          have kz : (k : Int) < (l.length : Int) := by omega
          have hwa : IntKind.i64.wrap (x.due + by_) = x.due + by_ := by rw [IntKind.wrap_i64]; omega
          have hwb : IntKind.i64.wrap (x.ready + by_) = x.ready + by_ := by rw [IntKind.wrap_i64]; omega
          clear hx hxm
          by_cases hbig : 1099511627776 < x.due + by_
          · have gl2 : ((0 : Int) == (l.length : Int)) = false := by simp; omega
            have HBV := hide (kalloc (kcall HB3.out HBk.out) (.cells #[.int .i64 x.no, .int .i64 x.ready, .int .i64 x.due, .int .i64 x.need, .bool x.alt] 39))
            obtain ⟨WB, hWB⟩ : ∃ WB, wr.alloc (.cells #[.int .i64 x.no, .int .i64 x.ready, .int .i64 x.due, .int .i64 x.need, .bool x.alt] 39) = WB := ⟨_, rfl⟩
            have Y := Blk.new wr #[.int .i64 x.no, .int .i64 x.ready, .int .i64 x.due, .int .i64 x.need, .bool x.alt] 39
            rw [hWB] at HBV Y
            have y1 := Y.cell (v := .int .i64 x.ready) 1 rfl
            have y2 := Y.cell (v := .int .i64 x.due) 2 rfl
            have yl := Y.lt
            clear Y HO HD HBk HMA HRB HRL hrl HX hxr
            cases ok
            · go_wp2
              go_ret
              exact ⟨rfl, HBV.out⟩
            · skip
              -- fewer jobs, easier jobs
              have hkl : at_ % l.length < l.length := Nat.mod_lt _ hpos
              have hkm : ((at_ : Int) % (l.length : Int)) = ((at_ % l.length : Nat) : Int) := by simp
              obtain ⟨x, hx⟩ : ∃ x, l[at_ % l.length]? = some x := ⟨_, List.getElem?_eq_getElem hkl⟩
              have HLA2 := hide (HLA.out rfl (at_ % l.length))
              have HEA2 := hide (HEA.out rfl (at_ % l.length) x hx)
              have hxr := rightJ_iff.1 (HR.out x (List.mem_of_getElem? hx))
              have hwm : IntKind.i64.wrap (((at_ % l.length : Nat) : Int) + 1) = ((at_ % l.length : Nat) : Int) + 1 := by rw [IntKind.wrap_i64]; omega
              generalize at_ % l.length = k at *
              have HX := hide hx
              clear HLA HEA hx
              have HBW := hide (show Below w.heap.size w WB from HBV.out)
              generalize WB = WW at *
              go_wp2_with fail
              simp only [hkm]
              have HSW := hide (HS.out.bel HBW.out)
              have HT1 := hide (jb_take HSW.out k)
              have HT2 := hide (show Sl jbC 5 WW (if c = k + 1 then some ⟨b, off, none⟩ else some ⟨b, off + (k + 1) * 5, none⟩) (c - (k + 1)) (l.drop (k + 1)) by
                split
                · rw [List.drop_of_length_le (by omega)]; exact Sl.nil (by omega)
                · exact jb_part (c' := c - (k + 1)) HSW.out (k + 1) (by omega) (by omega))
              have hT1l : (l.take k).length = k := by simp; omega
              have hT2l : (l.drop (k + 1)).length = l.length - (k + 1) := by simp
              have HLen : Hid ((l.take k ++ l.drop (k + 1)).length = l.length - 1) := hide (by simp; omega)
              generalize l.take k = T1 at *
              generalize l.drop (k + 1) = T2 at *
              have i0' : (0 : Int) ≤ k := by omega
              have i1' : (k : Int) ≤ l.length := by omega
              have i2' : (l.length : Int) ≤ c := by omega
              have i3' : (k : Int) ≤ c := by omega
              have i4' : ((k : Int) + 1) ≤ l.length := by omega
              have i5' : (0 : Int) ≤ (k : Int) + 1 := by omega
              have i6' : (k : Int) + 1 ≤ (c : Int) := by omega
              have i7' : ((k : Int) + 1).toNat = k + 1 := by omega
              go_region_held3 (fun _ => True) (first | trivial)
                (first
                  | (refine step_append (v := .slice (some ⟨_, 0, none⟩) 0 0) (u := .slice (some ⟨b, off, none⟩) k c) rfl (.tmp 133) (.tmp 136) 22 rfl rfl rfl (run_ext_jb (base := WW.heap.size) (l1 := []) (l2 := T1) Try.underlying22 HI.out hz0 hz1 hz2 rfl (OwnL.fresh' (by simp) (by omega)).drew hT1l (HT1.out.alloc _).drew (by simp [maxLen]; omega) (by simp; omega) (by simp <;> omega)) ?_
                     rintro v' w' ⟨gO, gG, gB⟩
                     have gN : WW.heap.size ≤ w'.heap.size := Nat.le_trans (by simp <;> omega) gG.size
                     have gBel : Below WW.heap.size WW w' := Below.grown ((Below.refl _ _).alloc (Nat.le_refl _) _).drew gG (by simp <;> omega) (fun k hk => by simp [Value.ownBlock] at hk; omega)
                     have gT := HT2.out.bel gBel
                     rw [List.nil_append] at gO)
                  | (refine step_append (v := v') (u := .slice (if c = k + 1 then some ⟨b, off, none⟩ else some ⟨b, off + (k + 1) * 5, none⟩) (l.length - (k + 1)) (c - (k + 1))) rfl (.tmp 137) (.tmp 141) 22 rfl rfl rfl (run_ext_jb (base := WW.heap.size) (l1 := T1) (l2 := T2) Try.underlying22 HI.out hz0 hz1 hz2 rfl gO hT2l gT (by simp [maxLen]; omega) (by omega) gN) ?_
                     rintro v'' w'' ⟨gO2, gG2, gB2⟩
                     have gBel2 : Below WW.heap.size WW w'' := Below.grown gBel gG2 gN (fun k hk => (gO.blk hk).1)
                     clear gT
                     generalize (if c = k + 1 then some (Addr.mk b off none) else some (Addr.mk b (off + (k + 1) * 5) none)) = A93 at *))
              obtain ⟨A9, c9, rfl, hS9⟩ := gO2.sl
              have HB9 := hide (kcall HBW.out gBel2)
              have HS9 := hide hS9
              have HSl := hide (HSW.out.bel gBel2)
              clear gO gG gB gO2 gG2 gB2 gBel gBel2 gN hS9 HT1 HT2 hT1l hT2l HSW HBW
              generalize T1 ++ T2 = T at *
              obtain ⟨w9, hw9⟩ : ∃ w9, w'' = w9 := ⟨_, rfl⟩
              subst hw9
              go_wp2_with (at_builtin; refine wpList_append rfl (.tmp 143) (.tmp 144) 22 rfl rfl rfl (run_ext_jb (base := w''.heap.size) (l1 := []) (l2 := l) Try.underlying22 HI.out hz0 hz1 hz2 rfl (OwnL.fresh' (by simp) (by omega)) rfl (HSl.out.alloc _) ?_ ?_ ?_) ?_)
              · simp [maxLen]; omega
              · simp; omega
              · simp
              · intro v10 w10 hO10 hg10 hat10
                have hb10 : Below w''.heap.size w'' w10 := Below.grown (kalloc (Below.refl _ _) _) hg10 (by simp) (fun k hk => by simp [Value.ownBlock] at hk; omega)
                have HB10 := hide (kcall HB9.out hb10)
                have HS10 := hide (HS9.out.bel hb10)
                have hw10 := hb10.size
                obtain ⟨g, cap, rfl, hg1, hg2, hcap, hcapm, hfz, hcc, hput⟩ := own_at hO10 HX.out
                have p1 := hcc 1 _ (show (jbC x)[1]? = some (.int .i64 x.ready) from rfl)
                have p2 := hcc 2 _ (show (jbC x)[2]? = some (.int .i64 x.due) from rfl)
                have z1 := hfz (k * 5 + 1)
                have z2 := hfz (k * 5 + 2)
                have wr1 : IntKind.i64.wrap (x.ready - ea) = x.ready - ea := by rw [IntKind.wrap_i64]; omega
                have wr2 : IntKind.i64.wrap (x.due + la) = x.due + la := by rw [IntKind.wrap_i64]; omega
                have HO10 := hide hO10
                have HBX := hide hb10
                clear hb10 hg10 hat10 hcc hput hfz hO10 HS10 HSl
                go_wp2_with fail
                go_region
                obtain ⟨w12, hw12⟩ : ∃ w12, ((w10.setCell ⟨g, k * 5 + 1, none⟩ (.int .i64 (max 0 (x.ready - ea)))).setCell ⟨g, k * 5 + 2, none⟩ (.int .i64 (min 1099511627776 (x.due + la)))).drew = w12 := ⟨_, rfl⟩
                rw [hw12]
                have HE12 : Hid (OwnL jbC 5 39 w12 w''.heap.size (.slice (some ⟨g, 0, none⟩) l.length cap) (l.set k (easier x ea la))) := hide (by
                  obtain ⟨g', cap', e', _, _, _, _, _, _, hput⟩ := own_at HO10.out HX.out
                  injection e' with e1 _ e2
                  injection e1 with e1
                  injection e1 with e1
                  subst e1 e2
                  have h1 := hput 1 (.int .i64 (max 0 (x.ready - ea))) ⟨x.no, max 0 (x.ready - ea), x.due, x.need, x.alt⟩ (w10.setCell ⟨g, k * 5 + 1, none⟩ (.int .i64 (max 0 (x.ready - ea)))) rfl (by decide) rfl
                  have hk2 : (l.set k ⟨x.no, max 0 (x.ready - ea), x.due, x.need, x.alt⟩)[k]? = some ⟨x.no, max 0 (x.ready - ea), x.due, x.need, x.alt⟩ := by rw [List.getElem?_set]; simp [hkl]
                  obtain ⟨g', cap', e', _, _, _, _, _, _, hput2⟩ := own_at h1 hk2
                  injection e' with e1 _ e2
                  injection e1 with e1
                  injection e1 with e1
                  subst e1 e2
                  have h2 := hput2 2 (.int .i64 (min 1099511627776 (x.due + la))) (easier x ea la) w12 (by rw [← hw12]; rfl) (by decide) rfl
                  rw [List.set_set] at h2
                  exact h2)
                have hbx : Below w''.heap.size w'' w12 := by rw [← hw12]; exact ((HBX.out.setCell (by dsimp only; omega) _).setCell (by dsimp only; omega) _).drew
                have HB12 := hide (kcall HB9.out hbx)
                have HS12 := hide (HS9.out.bel hbx)
                have K9 := hide (run22 A9 c9 T w12 HS12.out)
                unfold RunE at K9
                rw [HLA2.out.1, HLA2.out.2] at K9
                clear hw12 hbx HBX HB9 HS9 HO10 HB10 p1 p2 z1 z2 HS12 HLA2
                go_wp2_with fail
                refine K9.out.mono ?_
                rintro e w13 ⟨A13, c13, rfl, hS13, hb13⟩
                have HB13 := hide (kcall HB12.out hb13)
                obtain ⟨AE, cE, eE, hSE⟩ := (HE12.out.bel hb13).sl
                have hlE : (l.set k (easier x ea la)).length = l.length := by simp
                rw [hlE] at eE
                injection eE with e1 _ e2
                subst e1 e2
                have KE := hide (run22 (some ⟨g, 0, none⟩) cap (l.set k (easier x ea la)) w13 hSE)
                unfold RunE at KE
                rw [HEA2.out.1, HEA2.out.2, hlE] at KE
                clear hS13 hb13 K9 HE12 hSE hlE HEA2 HB12
                go_wp2_with fail
                refine KE.out.mono ?_
                rintro e w14 ⟨A14, c14, rfl, hS14, hb14⟩
                have HB14 := hide (kcall HB13.out hb14)
                clear hS14 hb14 KE
                go_wp2
                go_ret
                exact ⟨rfl, HB14.out⟩
          · have hbig2 : ¬ 1099511627776 < x.due + by_ := hbig
            obtain ⟨w6, hw6⟩ : ∃ w6, ((wr.alloc (.cells #[.int .i64 x.no, .int .i64 (x.ready + by_), .int .i64 (x.due + by_), .int .i64 x.need, .bool x.alt] 39))) = w6 := ⟨_, rfl⟩
            have Y := Blk.new wr #[.int .i64 x.no, .int .i64 (x.ready + by_), .int .i64 (x.due + by_), .int .i64 x.need, .bool x.alt] 39
            have hb6 : Below wr.heap.size wr w6 := by rw [← hw6]; exact kalloc (Below.refl _ _) _
            rw [hw6] at Y
            have y0 := Y.cell (v := .int .i64 x.no) 0 rfl
            have y1 := Y.cell (v := .int .i64 (x.ready + by_)) 1 rfl
            have y2 := Y.cell (v := .int .i64 (x.due + by_)) 2 rfl
            have y3 := Y.cell (v := .int .i64 x.need) 3 rfl
            have y4 := Y.cell (v := .bool x.alt) 4 rfl
            have yl := Y.lt
            have HO6 := hide (HO.out.bel hb6)
            have HB6 := hide (kcall HBk.out hb6)
            have h6z := hb6.size
            have hml : ((l.take k).map (shJ by_)).length = k := by simp; omega
            have HML := hide hml
            clear Y hb6 HO HBk hml
            go_wp2_with (at_builtin; refine wpList_append rfl (.tmp 74) (.tmp 76) 22 rfl rfl rfl (run_extend (f := jbC) (base := w3.heap.size) (l1 := (l.take k).map (shJ by_)) (l2 := [shJ by_ x]) Try.underlying22 HI.out hz0 hz1 hz2 rfl (by decide) (HO6.out.alloc _) (Sl.one (Blk.new _ _ _) rfl rfl (by decide) (by decide)) (jb_one _) ?_ ?_ ?_) ?_)
            · unfold maxLen; omega
            · omega
            · have := HB6.out.size; simp; omega
            · intro v9 w9 hO9 hg9 hat9
              have hO10 : OwnL jbC 5 39 w9 w3.heap.size v9 ((l.take (k + 1)).map (shJ by_)) := by rw [HX.out, List.map_append, List.map_take]; exact hO9
              have HO10 := hide hO10
              have HB9 : Hid (Below w3.heap.size w3 w9) := hide (Below.grown (kalloc HB6.out _) hg9 (by have := HB6.out.size; simp; omega) (fun g hg => (HO6.out.blk hg).1))
              have HD9 : Hid (∀ y ∈ l.take (k + 1), y.due + by_ ≤ 1099511627776) := hide (by
                rw [HX.out]; intro y hy
                rcases List.mem_append.1 hy with hy | hy
                · exact HD.out y hy
                · simp at hy; subst hy; omega)
              clear hO9 hg9 hat9 hO10 HO6 HB6 HD y0 y1 y2 y3 y4 yl hw6
              go_wp2
              go_roundw
              case rel => exact ⟨k + 1, by omega, by go_num, HO10, HD9, HB9⟩
              case measure => simp [nI]; omega
        · obtain rfl : k = l.length := by omega
          have hO := HO.out
          have hD := HD.out
          rw [List.take_length] at hO hD
          obtain ⟨h1, h2, h3⟩ := HMA.out hD
          have hml : (l.map (shJ by_)).length = l.length := by simp
          obtain ⟨A4, c4, rfl, hS4⟩ := hO.sl
          have K4 := hide (run22 A4 c4 _ wr hS4)
          unfold RunE at K4
          rw [h1, h2, h3] at K4
          rw [hml] at K4
          simp only [List.length_map] at K4
          rw [hml]
          have HBk2 := hide (kcall HB3.out HBk.out)
          obtain ⟨wl, hwl⟩ : ∃ x, x = wr := ⟨_, rfl⟩
          subst hwl
          have HS1' := hide (HS1.out.bel HBk.out)
          clear HO HD hO hD h1 h2 h3 hml hS4 HMA HBk HS1
          go_wp2_with fail
          refine K4.out.mono ?_
          rintro e w5 ⟨A5, c5, rfl, hS5, hb5⟩
          have HB5 := hide (kcall HBk2.out hb5)
          have HS1 := hide (HS1'.out.bel hb5)
          have HS5 := hide hS5
          obtain ⟨j0, hj, hy0, hy1, hy2⟩ := info_parts Try_info41
          have HJ := hide hj
          have hw5 := HB5.out.size
          clear hb5 hS5 K4 HBk2 HS1' hj
          go_wp2
          go_loopw [20, 92] (fun v20 v92 wr => ∃ (k : Nat), k ≤ s.length ∧ v92 = .int .i64 k ∧ Hid (OwnL sxC 3 41 wr w5.heap.size v20 ((s.take k).map (shS by_))) ∧ Hid (Below w5.heap.size w5 wr)) (fun _ i _ => s.length - (nI i).toNat)
          case atStart => exact ⟨0, Nat.zero_le _, rfl, OwnL.nil _ _ _ _ _, Below.refl _ _⟩
          case round =>
            obtain ⟨k, hk, rfl, HO, HBk⟩ := hrel
            by_cases hlt : k < s.length
            · obtain ⟨x, b2, off2, hx, _, rfl, hbw, d0, d1, d2⟩ := Sl.sx_at (HS1.out.bel HBk.out) hlt
              have HX := hide (take_of_get hx)
              have hxb := HRB.out x (List.mem_of_getElem? hx)
              have kz : (k : Int) < (s.length : Int) := by omega
              have hwa : IntKind.i64.wrap (x.f + by_) = x.f + by_ := by rw [IntKind.wrap_i64]; omega
              have hwb : IntKind.i64.wrap (x.u + by_) = x.u + by_ := by rw [IntKind.wrap_i64]; omega
              obtain ⟨w6, hw6⟩ : ∃ w6, wr.alloc (.cells #[.int .i64 x.no, .int .i64 x.f, .int .i64 x.u] 41) = w6 := ⟨_, rfl⟩
              have Y := Blk.new wr #[.int .i64 x.no, .int .i64 x.f, .int .i64 x.u] 41
              have hb6 : Below wr.heap.size wr w6 := by rw [← hw6]; exact kalloc (Below.refl _ _) _
              rw [hw6] at Y
              have y0 := Y.cell (v := .int .i64 x.no) 0 rfl
              have y1 := Y.cell (v := .int .i64 x.f) 1 rfl
              have y2 := Y.cell (v := .int .i64 x.u) 2 rfl
              have yl := Y.lt
              have HO6 := hide (HO.out.bel hb6)
              have HB6 := hide (kcall HBk.out hb6)
              have hml : ((s.take k).map (shS by_)).length = k := by simp; omega
              have HML := hide hml
              clear Y hb6 HO HBk hml hx
              go_wp2_with (at_builtin; refine wpList_append rfl (.tmp 96) (.tmp 110) 34 rfl rfl rfl (run_extend (f := sxC) (base := w5.heap.size) (l1 := (s.take k).map (shS by_)) (l2 := [shS by_ x]) Try.underlying34 HJ.out hy0 hy1 hy2 rfl (by decide) (HO6.out.alloc _) (Sl.one (Blk.new _ _ _) rfl rfl (by decide) (by decide)) (fun x _ => sx_one x) ?_ ?_ ?_) ?_)
              · simp only [List.length_singleton]; unfold maxLen; have := HML.out; omega
              · simp only [List.length_singleton]; have := HML.out; omega
              · have := HB6.out.size; simp; omega
              · intro v9 w9 hO9 hg9 hat9
                have hO10 : OwnL sxC 3 41 w9 w5.heap.size v9 ((s.take (k + 1)).map (shS by_)) := by rw [HX.out, List.map_append, List.map_take]; exact hO9
                have HO10 := hide hO10
                have HB9 : Hid (Below w5.heap.size w5 w9) := hide (Below.grown (kalloc HB6.out _) hg9 (by have := HB6.out.size; simp; omega) (fun g hg => (HO6.out.blk hg).1))
                clear hO9 hg9 hat9 hO10 HO6 HB6 y0 y1 y2 yl hw6
                go_wp2
                go_roundw
                case rel => exact ⟨k + 1, by omega, by go_num, HO10, HB9⟩
                case measure => simp [nI]; omega
            · obtain rfl : k = s.length := by omega
              have hO := HO.out
              rw [List.take_length] at hO
              obtain ⟨A6, c6, rfl, hS6⟩ := hO.sl
              have K7 := hide (same23 A5 A6 c5 c6 _ _ wr (HS5.out.bel HBk.out) hS6)
              rw [decide_eq_true rfl] at K7
              simp only [List.length_map] at K7 ⊢
              have HB7 := hide (kcall HB5.out HBk.out)
              clear HO hO hS6 HBk
              go_wp2_with fail
              refine K7.out.mono ?_
              rintro e w7 ⟨rfl, hb7⟩
              have HB8 := hide (kcall HB7.out hb7)
              clear hb7 K7 HB7
              cases ok
              · go_wp2
                go_ret
                exact ⟨rfl, HB8.out⟩
              · skip
                -- fewer jobs, easier jobs
                have hkl : at_ % l.length < l.length := Nat.mod_lt _ hpos
                have hkm : ((at_ : Int) % (l.length : Int)) = ((at_ % l.length : Nat) : Int) := by simp
                obtain ⟨x, hx⟩ : ∃ x, l[at_ % l.length]? = some x := ⟨_, List.getElem?_eq_getElem hkl⟩
                have HLA2 := hide (HLA.out rfl (at_ % l.length))
                have HEA2 := hide (HEA.out rfl (at_ % l.length) x hx)
                have hxr := rightJ_iff.1 (HR.out x (List.mem_of_getElem? hx))
                have hwm : IntKind.i64.wrap (((at_ % l.length : Nat) : Int) + 1) = ((at_ % l.length : Nat) : Int) + 1 := by rw [IntKind.wrap_i64]; omega
                generalize at_ % l.length = k at *
                have HX := hide hx
                clear HLA HEA hx
                have HBW := hide (show Below w.heap.size w w7 from HB8.out)
                generalize w7 = WW at *
                go_wp2_with fail
                simp only [hkm]
                have HSW := hide (HS.out.bel HBW.out)
                have HT1 := hide (jb_take HSW.out k)
                have HT2 := hide (show Sl jbC 5 WW (if c = k + 1 then some ⟨b, off, none⟩ else some ⟨b, off + (k + 1) * 5, none⟩) (c - (k + 1)) (l.drop (k + 1)) by
                  split
                  · rw [List.drop_of_length_le (by omega)]; exact Sl.nil (by omega)
                  · exact jb_part (c' := c - (k + 1)) HSW.out (k + 1) (by omega) (by omega))
                have hT1l : (l.take k).length = k := by simp; omega
                have hT2l : (l.drop (k + 1)).length = l.length - (k + 1) := by simp
                have HLen : Hid ((l.take k ++ l.drop (k + 1)).length = l.length - 1) := hide (by simp; omega)
                generalize l.take k = T1 at *
                generalize l.drop (k + 1) = T2 at *
                have i0' : (0 : Int) ≤ k := by omega
                have i1' : (k : Int) ≤ l.length := by omega
                have i2' : (l.length : Int) ≤ c := by omega
                have i3' : (k : Int) ≤ c := by omega
                have i4' : ((k : Int) + 1) ≤ l.length := by omega
                have i5' : (0 : Int) ≤ (k : Int) + 1 := by omega
                have i6' : (k : Int) + 1 ≤ (c : Int) := by omega
                have i7' : ((k : Int) + 1).toNat = k + 1 := by omega
                go_region_held3 (fun _ => True) (first | trivial)
                  (first
                    | (refine step_append (v := .slice (some ⟨_, 0, none⟩) 0 0) (u := .slice (some ⟨b, off, none⟩) k c) rfl (.tmp 133) (.tmp 136) 22 rfl rfl rfl (run_ext_jb (base := WW.heap.size) (l1 := []) (l2 := T1) Try.underlying22 HI.out hz0 hz1 hz2 rfl (OwnL.fresh' (by simp) (by omega)).drew hT1l (HT1.out.alloc _).drew (by simp [maxLen]; omega) (by simp; omega) (by simp <;> omega)) ?_
                       rintro v' w' ⟨gO, gG, gB⟩
                       have gN : WW.heap.size ≤ w'.heap.size := Nat.le_trans (by simp <;> omega) gG.size
                       have gBel : Below WW.heap.size WW w' := Below.grown ((Below.refl _ _).alloc (Nat.le_refl _) _).drew gG (by simp <;> omega) (fun k hk => by simp [Value.ownBlock] at hk; omega)
                       have gT := HT2.out.bel gBel
                       rw [List.nil_append] at gO)
                    | (refine step_append (v := v') (u := .slice (if c = k + 1 then some ⟨b, off, none⟩ else some ⟨b, off + (k + 1) * 5, none⟩) (l.length - (k + 1)) (c - (k + 1))) rfl (.tmp 137) (.tmp 141) 22 rfl rfl rfl (run_ext_jb (base := WW.heap.size) (l1 := T1) (l2 := T2) Try.underlying22 HI.out hz0 hz1 hz2 rfl gO hT2l gT (by simp [maxLen]; omega) (by omega) gN) ?_
                       rintro v'' w'' ⟨gO2, gG2, gB2⟩
                       have gBel2 : Below WW.heap.size WW w'' := Below.grown gBel gG2 gN (fun k hk => (gO.blk hk).1)
                       clear gT
                       generalize (if c = k + 1 then some (Addr.mk b off none) else some (Addr.mk b (off + (k + 1) * 5) none)) = A93 at *))
                obtain ⟨A9, c9, rfl, hS9⟩ := gO2.sl
                have HB9 := hide (kcall HBW.out gBel2)
                have HS9 := hide hS9
                have HSl := hide (HSW.out.bel gBel2)
                clear gO gG gB gO2 gG2 gB2 gBel gBel2 gN hS9 HT1 HT2 hT1l hT2l HSW HBW
                generalize T1 ++ T2 = T at *
                obtain ⟨w9, hw9⟩ : ∃ w9, w'' = w9 := ⟨_, rfl⟩
                subst hw9
                go_wp2_with (at_builtin; refine wpList_append rfl (.tmp 143) (.tmp 144) 22 rfl rfl rfl (run_ext_jb (base := w''.heap.size) (l1 := []) (l2 := l) Try.underlying22 HI.out hz0 hz1 hz2 rfl (OwnL.fresh' (by simp) (by omega)) rfl (HSl.out.alloc _) ?_ ?_ ?_) ?_)
                · simp [maxLen]; omega
                · simp; omega
                · simp
                · intro v10 w10 hO10 hg10 hat10
                  have hb10 : Below w''.heap.size w'' w10 := Below.grown (kalloc (Below.refl _ _) _) hg10 (by simp) (fun k hk => by simp [Value.ownBlock] at hk; omega)
                  have HB10 := hide (kcall HB9.out hb10)
                  have HS10 := hide (HS9.out.bel hb10)
                  have hw10 := hb10.size
                  obtain ⟨g, cap, rfl, hg1, hg2, hcap, hcapm, hfz, hcc, hput⟩ := own_at hO10 HX.out
                  have p1 := hcc 1 _ (show (jbC x)[1]? = some (.int .i64 x.ready) from rfl)
                  have p2 := hcc 2 _ (show (jbC x)[2]? = some (.int .i64 x.due) from rfl)
                  have z1 := hfz (k * 5 + 1)
                  have z2 := hfz (k * 5 + 2)
                  have wr1 : IntKind.i64.wrap (x.ready - ea) = x.ready - ea := by rw [IntKind.wrap_i64]; omega
                  have wr2 : IntKind.i64.wrap (x.due + la) = x.due + la := by rw [IntKind.wrap_i64]; omega
                  have HO10 := hide hO10
                  have HBX := hide hb10
                  clear hb10 hg10 hat10 hcc hput hfz hO10 HS10 HSl
                  go_wp2_with fail
                  go_region
                  obtain ⟨w12, hw12⟩ : ∃ w12, ((w10.setCell ⟨g, k * 5 + 1, none⟩ (.int .i64 (max 0 (x.ready - ea)))).setCell ⟨g, k * 5 + 2, none⟩ (.int .i64 (min 1099511627776 (x.due + la)))).drew = w12 := ⟨_, rfl⟩
                  rw [hw12]
                  have HE12 : Hid (OwnL jbC 5 39 w12 w''.heap.size (.slice (some ⟨g, 0, none⟩) l.length cap) (l.set k (easier x ea la))) := hide (by
                    obtain ⟨g', cap', e', _, _, _, _, _, _, hput⟩ := own_at HO10.out HX.out
                    injection e' with e1 _ e2
                    injection e1 with e1
                    injection e1 with e1
                    subst e1 e2
                    have h1 := hput 1 (.int .i64 (max 0 (x.ready - ea))) ⟨x.no, max 0 (x.ready - ea), x.due, x.need, x.alt⟩ (w10.setCell ⟨g, k * 5 + 1, none⟩ (.int .i64 (max 0 (x.ready - ea)))) rfl (by decide) rfl
                    have hk2 : (l.set k ⟨x.no, max 0 (x.ready - ea), x.due, x.need, x.alt⟩)[k]? = some ⟨x.no, max 0 (x.ready - ea), x.due, x.need, x.alt⟩ := by rw [List.getElem?_set]; simp [hkl]
                    obtain ⟨g', cap', e', _, _, _, _, _, _, hput2⟩ := own_at h1 hk2
                    injection e' with e1 _ e2
                    injection e1 with e1
                    injection e1 with e1
                    subst e1 e2
                    have h2 := hput2 2 (.int .i64 (min 1099511627776 (x.due + la))) (easier x ea la) w12 (by rw [← hw12]; rfl) (by decide) rfl
                    rw [List.set_set] at h2
                    exact h2)
                  have hbx : Below w''.heap.size w'' w12 := by rw [← hw12]; exact ((HBX.out.setCell (by dsimp only; omega) _).setCell (by dsimp only; omega) _).drew
                  have HB12 := hide (kcall HB9.out hbx)
                  have HS12 := hide (HS9.out.bel hbx)
                  have K9 := hide (run22 A9 c9 T w12 HS12.out)
                  unfold RunE at K9
                  rw [HLA2.out.1, HLA2.out.2] at K9
                  clear hw12 hbx HBX HB9 HS9 HO10 HB10 p1 p2 z1 z2 HS12 HLA2
                  go_wp2_with fail
                  refine K9.out.mono ?_
                  rintro e w13 ⟨A13, c13, rfl, hS13, hb13⟩
                  have HB13 := hide (kcall HB12.out hb13)
                  obtain ⟨AE, cE, eE, hSE⟩ := (HE12.out.bel hb13).sl
                  have hlE : (l.set k (easier x ea la)).length = l.length := by simp
                  rw [hlE] at eE
                  injection eE with e1 _ e2
                  subst e1 e2
                  have KE := hide (run22 (some ⟨g, 0, none⟩) cap (l.set k (easier x ea la)) w13 hSE)
                  unfold RunE at KE
                  rw [HEA2.out.1, HEA2.out.2, hlE] at KE
                  clear hS13 hb13 K9 HE12 hSE hlE HEA2 HB12
                  go_wp2_with fail
                  refine KE.out.mono ?_
                  rintro e w14 ⟨A14, c14, rfl, hS14, hb14⟩
                  have HB14 := hide (kcall HB13.out hb14)
                  clear hS14 hb14 KE
                  go_wp2
                  go_ret
                  exact ⟨rfl, HB14.out⟩
end Go.Proofs.Ytbkokljelopcnaa
