/-
  targets44: what all have in a stage is divided.
  trades44: the trades that make the budgets of a stage the targets.
-/
import Derived.Test.YtnngemgfochodaaGreatTM15
import Derived.Test.YtnngemgfochodaaGreatTM5
import Derived.Test.YtnngemgfochodaaGreatTM1
import Derived.Test.YtnngemgfochodaaGreatMore
import Derived.BigRegion
import Derived.Deep.RegionHeld3
namespace Go.Proofs.YtnngemgfochodaaGreat
open Go.RowKit Go.Shelf Go.Mine Go.Mine.B Go.Mine.X
attribute [local go_sem] Oper.semAt_some
/-- what the first few have in a stage -/
def sumK (nb : List Bu) (s : Int) (k : Nat) : Int := ((nb.take k).map fun y => qg y.q s).sum
theorem sumK_next {nb : List Bu} {k : Nat} {y : Bu} (h : nb[k]? = some y) (s : Int) : sumK nb s (k + 1) = sumK nb s k + qg y.q s := by
  unfold sumK
  rw [take_of_get h, List.map_append, List.map_cons, List.map_nil, sum_snoc]
theorem sumK_bound {nb : List Bu} (h : ∀ y ∈ nb, okQ y.q) (hl : nb.length ≤ 6) (s : Int) (k : Nat) : 0 ≤ sumK nb s k ∧ sumK nb s k ≤ 6442450944 := by
  have h1 := sum_bound (m := 1073741824) (l := (nb.take k).map fun y => qg y.q s) (fun x hx => by
    obtain ⟨y, hy, rfl⟩ := List.mem_map.1 hx
    have := okQ_get (h y (List.mem_of_mem_take hy)) s
    unfold most at this
    exact this)
  have h2 : ((nb.take k).map fun y => qg y.q s).length ≤ 6 := by rw [List.length_map, List.length_take]; omega
  unfold sumK
  omega
/-- the targets -/
structure TgP (nb : List Bu) (s : Int) (T : List Int) : Prop where
  len : T.length = nb.length
  ok : ∀ t ∈ T, 0 ≤ t ∧ t ≤ 1073741824
  sum : T.sum = (nb.map fun y => qg y.q s).sum
theorem run_ext_ic {P : Program} {w : World} {t ty e : TypeId} {base : Nat} {i : TypeInfo} {z : Value} {bytes : Nat} (ht : P.underlying t = some (.slice e)) (hi : P.info? e = some i) (hz : i.zero = some z)
    (hsize : i.size = 1) (hby : i.bytes = bytes) (hzs : z.cells.size = 1) {v : Value} {l1 l2 : List Int} (hown : OwnL ic 1 e w base v l1) {A : Option Addr} {c n : Nat} (hn : l2.length = n) (h2 : Sl ic 1 w A c l2)
    (h63 : l1.length + n ≤ maxLen) (hbytes : (l1.length + n) * bytes ≤ 140737488355328) (hbase : base ≤ w.heap.size) :
    ∃ v' w', (Builtin.append_ #[t, t] ty #[v, .slice A n c]).run P w = .ok v' w' ∧ OwnL ic 1 e w' base v' (l1 ++ l2) ∧ w.grownBy w' v.ownBlock ∧ (∀ g, v'.ownBlock = some g → v.ownBlock = some g ∨ w.heap.size ≤ g) := by
  subst hn
  exact run_extend ht hi hz hsize hby hzs (by decide) hown h2 (ic_ones _) h63 hbytes hbase
theorem take_sum {L : List Int} {k : Nat} {x : Int} (h : L[k]? = some x) : (L.take (k + 1)).sum = (L.take k).sum + x := by rw [take_of_get h, sum_snoc]
set_option maxHeartbeats 8000000 in
set_option maxRecDepth 100000 in
theorem targets8 (A : Option Addr) (c : Nat) (nb : List Bu) (s : Nat) (B : Option Addr) (d : Nat) (ds : List Int) (w : World) (hS : Sl buC 5 w A c nb) (hT : Sl ic 1 w B d ds) (hs : s < 4) (hq : ∀ y ∈ nb, okQ y.q) (hl : nb.length ≤ 6) (hpos : 0 < nb.length) (hlen : ds.length = nb.length) (hd : ∀ d ∈ ds, 0 ≤ d ∧ d ≤ 1099511627776) :
    Calls Tryz.prog 8 #[.slice A nb.length c, .int .i64 s, .slice B ds.length d] w fun e w' => Below w.heap.size w w' ∧ ((∃ (A' : Option Addr) (c' : Nat) (T : List Int), e = .returned (.tuple #[.slice A' T.length c', .bool true, .bool true]) ∧ Sl ic 1 w' A' c' T ∧ TgP nb s T) ∨ e = .returned (.tuple #[.slice none 0 0, .bool false, .bool true])) := by
  have hlc := hS.le
  have hc := hS.max
  have hld := hT.le
  have hdm := hT.max
  have HS := hide hS
  have HQ := hide hq
  have HBS := hide (sumK_bound hq hl (s : Int))
  have KD := hide (fun cc W (h : Below w.heap.size w W) hcc => divide27 cc B d ds W (hT.bel h) (by omega) hcc hd)
  have HTI := hide (fun W (h : Below w.heap.size w W) => hT.bel h)
  have HD := hide hd
  have HB0 := hide (Below.refl w.heap.size w)
  obtain ⟨i0, hi, hz0, hz1, hz2⟩ := info_parts Try_infoI
  have HI := hide hi
  have hsz : (s : Int) < 4 := by omega
  clear hS hT hq hd hi
  go_enter Tryz.func8, Tryz.ntmps8
  go_wp2
  go_loopw [9, 23] (fun v9 i wr => ∃ k : Nat, k ≤ nb.length ∧ i = .int .i64 k ∧ v9 = .int .i64 (sumK nb s k) ∧ Hid (Below w.heap.size w wr)) (fun _ i _ => nb.length - (nI i).toNat)
  case atStart => exact ⟨0, Nat.zero_le _, rfl, rfl, HB0⟩
  case round =>
    clear HB0
    obtain ⟨k, hk, rfl, rfl, HB⟩ := hrel
    by_cases hlt : k < nb.length
    · obtain ⟨x, b, off, hx, hdr, rfl, hbw, c0, c1, c2, c3, c4⟩ := Sl.bu_at (HS.out.bel HB.out) hlt
      have kz : (k : Int) < (nb.length : Int) := by omega
      have HX := hide (sumK_next hx (s : Int))
      have hqx := okQ_get (HQ.out x (List.mem_of_getElem? hx)) (s : Int)
      unfold most at hqx
      have hbs := HBS.out k
      have hw : IntKind.i64.wrap (sumK nb s k + qg x.q s) = sumK nb s k + qg x.q s := by rw [IntKind.wrap_i64]; omega
      obtain ⟨w2, hw2⟩ : ∃ w2, wr.alloc (.cells #[.int .i64 x.lang, .int .i64 x.q.1, .int .i64 x.q.2.1, .int .i64 x.q.2.2.1, .int .i64 x.q.2.2.2] 30) = w2 := ⟨_, rfl⟩
      have X2 : Blk w2 wr.heap.size 30 (buC x).toArray := by rw [← hw2]; exact Blk.new _ _ _
      have HB2 : Hid (Below w.heap.size w w2) := hide (by rw [← hw2]; exact kalloc HB.out _)
      have y0 := X2.cell (1 + s) (buC_get x s hs)
      have yl := X2.lt
      clear hx hdr X2 hbs hqx HB
      generalize sumK nb s k = S at *
      generalize qg x.q s = q at *
      go_wp2
      go_roundw
      case rel => exact ⟨k + 1, by omega, by go_num, by rw [HX.out], HB2⟩
      case measure => simp [nI]; omega
    · obtain rfl : k = nb.length := by omega
      have hall : sumK nb s nb.length = (nb.map fun y => qg y.q (s : Int)).sum := by unfold sumK; rw [List.take_length]
      have hbs := HBS.out nb.length
      have HALL := hide hall
      have KD := hide (KD.out (sumK nb s nb.length) wr HB.out (by omega))
      rw [hlen] at KD
      clear hall HBS
      generalize sumK nb s nb.length = S at *
      go_wp2_with fail
      refine KD.out.mono ?_
      rintro e w2 ⟨D, d2, L, rfl, hSL, hDP, hb⟩
      have HB2 := hide (kcall HB.out hb)
      have hLl : L.length = nb.length := hDP.len.trans hlen
      have hDs := hDP.sum
      obtain ⟨n0, hn0, hLx, hLd⟩ := hDP.part (fun d h => (HD.out d h).1)
      have hLb : ∀ (i : Nat) (x : Int), L[i]? = some x → ∃ y, ds[i]? = some y ∧ 0 ≤ x ∧ x ≤ y ∧ y ≤ 1099511627776 ∧ x ≤ n0 + 1 ∧ (x < y → n0 ≤ x) := fun i x hi => by
        have hil : i < ds.length := by
          have := (List.getElem?_eq_some_iff.1 hi).1
          rw [hDP.len] at this; exact this
        have h1 := hLx x (List.mem_of_getElem? hi)
        have h2 := hLd i ds[i] x (List.getElem?_eq_getElem hil) hi
        have h3 := HD.out ds[i] (List.getElem_mem hil)
        exact ⟨ds[i], List.getElem?_eq_getElem hil, h1.1, h2.1, h3.2, h1.2, h2.2⟩
      have HLB := hide hLb
      have HSB := hide (fun k => show 0 ≤ (L.take k).sum ∧ (L.take k).sum ≤ 6 * 1099511627776 by
        have h1 := sum_bound (m := 1099511627776) (l := L.take k) (fun x hx => by
          obtain ⟨i, hi⟩ := List.getElem?_of_mem (List.mem_of_mem_take hx)
          obtain ⟨y, _, h2, h3, h4, _⟩ := hLb i x hi
          omega)
        have h2 : (L.take k).length ≤ 6 := by rw [List.length_take]; omega
        omega)
      have HSL := hide hSL
      have hDc := hSL.le
      have hDm := hSL.max
      clear hb hSL hDP hLx hLd hLb KD HB
      rw [hLl]
      have g1 : (nb.length == nb.length) = true := by simp
      go_wp2
      go_loopw [13, 14, 51] (fun v13 v14 i wr => ∃ (k : Nat) (m : Int), k ≤ nb.length ∧ i = .int .i64 k ∧ v13 = .int .i64 (L.take k).sum ∧ v14 = .int .i64 m ∧ 0 ≤ m ∧ m ≤ n0 + 1 ∧ m ≤ 1099511627776 ∧ Hid (Below w2.heap.size w2 wr)) (fun _ _ i _ => nb.length - (nI i).toNat)
      case atStart => exact ⟨0, 0, Nat.zero_le _, rfl, by rw [List.take_zero]; rfl, rfl, by omega, by omega, by omega, Below.refl _ _⟩
      case round =>
        obtain ⟨k, m, hk, rfl, rfl, rfl, hm0, hm1, hm2, HBk⟩ := hrel
        by_cases hlt : k < nb.length
        · obtain ⟨x, b, off, hx, hdr, rfl, hbw, c1⟩ := Sl.ic_at (HSL.out.bel HBk.out) (show k < L.length by omega)
          have kz : (k : Int) < (nb.length : Int) := by omega
          have HX := hide (take_sum hx)
          obtain ⟨y, _, hx0, hxy, hyb, hxn, _⟩ := HLB.out k x hx
          have hsb := HSB.out k
          have hw : IntKind.i64.wrap ((L.take k).sum + x) = (L.take k).sum + x := by rw [IntKind.wrap_i64]; omega
          clear hx hdr hsb
          generalize (L.take k).sum = q at *
          go_wp2
          all_goals
            go_roundw
            case rel => exact ⟨k + 1, _, by omega, by go_num, by rw [HX.out], rfl, by omega, by omega, by omega, HBk⟩
            case measure => simp [nI]; omega
        · obtain rfl : k = nb.length := by omega
          rw [List.take_of_length_le (by omega)]
          have hsb := HSB.out nb.length
          rw [List.take_of_length_le (by omega)] at hsb
          obtain ⟨wo, hwo⟩ : ∃ x, x = wr := ⟨_, rfl⟩
          subst hwo
          obtain ⟨SL, hSLs⟩ : ∃ SL, L.sum = SL := ⟨_, rfl⟩
          rw [hSLs] at hsb hDs ⊢
          have hwm : IntKind.i64.wrap (m - 1) = m - 1 := by rw [IntKind.wrap_i64]; omega
          have gS : decide (S < SL) = false := decide_eq_false (by omega)
          go_wp2
          go_loopw [6, 64] (fun v6 i wr => ∃ (k : Nat), k ≤ nb.length ∧ i = .int .i64 k ∧ v6 = .slice D nb.length d2 ∧ Hid (Below wo.heap.size wo wr)) (fun _ i _ => nb.length - (nI i).toNat)
          case atStart => exact ⟨0, Nat.zero_le _, rfl, rfl, Below.refl _ _⟩
          case round =>
            obtain ⟨k, hk, rfl, rfl, HBj⟩ := hrel
            by_cases hlt : k < nb.length
            · obtain ⟨x, b, off, hx, hdr, rfl, hbw, c1⟩ := Sl.ic_at (HSL.out.bel (kcall HBk.out HBj.out)) (show k < L.length by omega)
              obtain ⟨y, b2, off2, hy, hdr2, rfl, hbw2, c2⟩ := Sl.ic_at (HTI.out _ (kcall HB2.out (kcall HBk.out HBj.out))) (show k < ds.length by omega)
              have kz : (k : Int) < (nb.length : Int) := by omega
              have kz2 : (k : Int) < (ds.length : Int) := by omega
              obtain ⟨y', hy', hx0, hxy, hyb, hxn, hxl⟩ := HLB.out k x hx
              rw [hy] at hy'
              obtain rfl := Option.some.inj hy'
              have g1 : decide (x < 0) = false := decide_eq_false (by omega)
              have g2 : decide (y < x) = false := decide_eq_false (by omega)
              have g3 : decide (x < y) = false ∨ (decide (x < y) = true ∧ decide (x < m - 1) = false) := by
                by_cases h : x < y
                · exact .inr ⟨decide_eq_true h, decide_eq_false (by have := hxl h; omega)⟩
                · exact .inl (decide_eq_false h)
              clear hx hy hdr hdr2 hy' hxl
              rcases g3 with g3 | ⟨g3, g4⟩
              all_goals
                go_wp2
                go_roundw
                case rel => exact ⟨k + 1, by omega, by go_num, rfl, HBj⟩
                case measure => simp [nI]; omega
            · obtain rfl : k = nb.length := by omega
              have HB3 := hide (kcall HB2.out (kcall HBk.out HBj.out))
              have HS3 := hide (HSL.out.bel (kcall HBk.out HBj.out))
              go_wp2_with (at_builtin; refine wpList_append rfl (.tmp 97) (.tmp 98) 24 rfl rfl rfl (run_ext_ic (base := wr.heap.size) (l1 := []) (l2 := L) Tryz.underlying24 HI.out hz0 hz1 hz2 rfl (OwnL.fresh' (by simp) (by omega)) hLl (HS3.out.alloc _) ?_ ?_ ?_) ?_)
              · simp [maxLen]; omega
              · simp; omega
              · simp
              · intro v10 w10 hO10 hg10 hat10
                have hb10 : Below wr.heap.size wr w10 := Below.grown (kalloc (Below.refl _ _) _) hg10 (by simp) (fun k hk => by simp [Value.ownBlock] at hk; omega)
                have HB10 := hide (kcall HB3.out hb10)
                obtain ⟨x, hx⟩ : ∃ x, L[0]? = some x := ⟨_, List.getElem?_eq_getElem (show 0 < L.length by omega)⟩
                obtain ⟨g, cap, rfl, hg1, hg2, hcap, hcapm, hfz, hcc, hput⟩ := own_at hO10 hx
                have p0 := hcc 0 _ (show (ic x)[0]? = some (.int .i64 x) from rfl)
                have z0 := hfz (0 * 1)
                simp only [Nat.zero_mul, Nat.add_zero] at p0 z0
                obtain ⟨y, _, hx0, hxy, hyb, _, _⟩ := HLB.out 0 x hx
                have hw1 : IntKind.i64.wrap (S - SL) = S - SL := by rw [IntKind.wrap_i64]; omega
                have hw2 : IntKind.i64.wrap (x + (S - SL)) = x + (S - SL) := by rw [IntKind.wrap_i64]; omega
                have hnl : (0 : Int) < (nb.length : Int) := by omega
                obtain ⟨T, hT⟩ : ∃ T, L.set 0 (x + (S - SL)) = T := ⟨_, rfl⟩
                have hTl : T.length = nb.length := by rw [← hT, List.length_set, hLl]
                have hTs : T.sum = S := by rw [← hT, sum_set _ hx, hSLs]; omega
                have hTp : ∀ t ∈ T, 0 ≤ t := fun t ht => by
                  rw [← hT] at ht
                  rcases List.mem_or_eq_of_mem_set ht with h | rfl
                  · obtain ⟨i, hi⟩ := List.getElem?_of_mem h
                    obtain ⟨_, _, h2, _⟩ := HLB.out i t hi
                    exact h2
                  · omega
                obtain ⟨w11, hw11⟩ : ∃ w11, w10.setCell ⟨g, 0, none⟩ (.int .i64 (x + (S - SL))) = w11 := ⟨_, rfl⟩
                have hO11 : OwnL ic 1 3 w11 wr.heap.size (.slice (some ⟨g, 0, none⟩) L.length cap) T := by
                  rw [← hT]
                  exact hput 0 (.int .i64 (x + (S - SL))) (x + (S - SL)) w11 (by rw [← hw11]) (by decide) rfl
                obtain ⟨A8, c8, e8, hS8⟩ := hO11.sl
                have HB11 := hide (show Below wr.heap.size wr w11 by rw [← hw11]; exact hb10.setCell (by dsimp only; omega) _)
                injection e8 with e1 _ e2
                subst e1 e2
                have HS8 := hide hS8
                have HTP := hide hTp
                clear hO10 hg10 hat10 hx hcc hput hfz hO11 hS8 hTp hb10 HB10 HS3
                go_wp2
                go_loopw [6, 110] (fun v6 i wr => ∃ (k : Nat), k ≤ nb.length ∧ i = .int .i64 k ∧ v6 = .slice (some ⟨g, 0, none⟩) nb.length cap ∧ Hid (∀ t ∈ T.take k, t ≤ 1073741824) ∧ Hid (Below w11.heap.size w11 wr)) (fun _ i _ => nb.length - (nI i).toNat)
                case atStart => exact ⟨0, Nat.zero_le _, rfl, by rw [hLl], fun t h => by simp at h, Below.refl _ _⟩
                case round =>
                  obtain ⟨k, hk, rfl, rfl, HM, HBq⟩ := hrel
                  by_cases hlt : k < nb.length
                  · obtain ⟨x', b, off, hx, hdr, e', hbw, c1⟩ := Sl.ic_at (HS8.out.bel HBq.out) (show k < T.length by omega)
                    cases e'
                    rw [Nat.zero_add] at c1
                    have kz : (k : Int) < (nb.length : Int) := by omega
                    have HX := hide (take_of_get hx)
                    by_cases hbig : 1073741824 < x'
                    · have g1 : decide (1073741824 < x') = true := decide_eq_true hbig
                      have HBF := hide (kcall HB2.out (kcall (kcall HBk.out HBj.out) (kcall HB11.out HBq.out)))
                      clear hx hdr
                      go_wp2
                      exact bodyPost_ret (v := .tuple #[.slice none 0 0, .bool false, .bool true]) (by simp [results, Tryz.results8, go_sem]) rfl ⟨HBF.out, .inr rfl⟩
                    · have g1 : decide (1073741824 < x') = false := decide_eq_false hbig
                      have HM2 : Hid (∀ t ∈ T.take (k + 1), t ≤ 1073741824) := hide (fun t ht => by
                        rw [HX.out] at ht
                        rcases List.mem_append.1 ht with h | h
                        · exact HM.out t h
                        · rw [List.mem_singleton] at h; subst h; omega)
                      clear hx hdr
                      go_wp2
                      go_roundw
                      case rel => exact ⟨k + 1, by omega, by go_num, rfl, HM2, HBq⟩
                      case measure => simp [nI]; omega
                  · obtain rfl : k = nb.length := by omega
                    have hM := HM.out
                    rw [List.take_of_length_le (by omega)] at hM
                    have HTG := hide (show TgP nb s T from ⟨hTl, fun t ht => ⟨HTP.out t ht, hM t ht⟩, hTs.trans HALL.out⟩)
                    have HBF := hide (kcall HB2.out (kcall (kcall HBk.out HBj.out) (kcall HB11.out HBq.out)))
                    have HSF := hide (HS8.out.bel HBq.out)
                    clear hM HM
                    go_wp2
                    exact bodyPost_ret (v := .tuple #[.slice (some ⟨g, 0, none⟩) nb.length cap, .bool true, .bool true]) (by simp [results, Tryz.results8, go_sem]) rfl ⟨HBF.out, .inl ⟨_, _, T, by rw [hTl], HSF.out, HTG.out⟩⟩
end Go.Proofs.YtnngemgfochodaaGreat
namespace Go.Proofs.YtnngemgfochodaaGreat
open Go.RowKit Go.Shelf Go.Mine Go.Mine.B Go.Mine.X
attribute [local go_sem] Oper.semAt_some
theorem Try_infoT : (Tryz.prog.info? 38).map (fun i => (i.zero, i.size, i.bytes)) = some (some (.agg #[.int .i64 0, .int .i64 0, .int .i64 0, .int .i64 0, .int .i64 0, .int .i64 0, .int .i64 0]), 7, 56) := by kernel_rfl
/-- a row of noughts that was just made -/
theorem own_made {w : World} {n : Nat} (hn : n ≤ 1000) : OwnL ic 1 3 (w.alloc (.cells (madeCells #[.int .i64 0] n) 3)) w.heap.size (.slice (some ⟨w.heap.size, 0, none⟩) n n) (List.replicate n (0 : Int)) := by
  have e : (madeCells #[Value.int .i64 0] n).toList = List.replicate n (.int .i64 0) := toList_madeCells_one _ _
  have hf : (List.replicate n (0 : Int)).flatMap ic = List.replicate n (.int .i64 0) := by
    induction n with
    | zero => rfl
    | succ n ih =>
      have := ih (by omega) (toList_madeCells_one _ _)
      rw [List.replicate_succ, List.flatMap_cons, this, List.replicate_succ]; rfl
  refine ⟨⟨by rw [hf]; simp, .inr ⟨w.heap.size, n, madeCells #[.int .i64 0] n, by simp, Nat.le_refl _, heap_new _ _, by simp, by unfold maxLen; omega, ?_, ?_⟩⟩, fun _ _ => rfl⟩
  · rw [← Array.length_toList, e]; simp
  · rw [e, hf]; simp
/-- what is to be got, as far as it is known -/
def MoreP (b : List Bu) (P : Pu) (s : Int) (T M : List Int) (k : Nat) : Prop := M.length = b.length ∧ ∀ (j : Nat) (y : Bu) (t m : Int), j < k → b[j]? = some y → T[j]? = some t → M[j]? = some m → m = t - valP P y.lang s
theorem MoreP.next {b : List Bu} {P : Pu} {s : Int} {T M : List Int} {k : Nat} (h : MoreP b P s T M k) {y : Bu} {t : Int} (hy : b[k]? = some y) (ht : T[k]? = some t) : MoreP b P s T (M.set k (t - valP P y.lang s)) (k + 1) := by
  refine ⟨by rw [List.length_set]; exact h.1, fun j y' t' m' hj h1 h2 h3 => ?_⟩
  by_cases e : j = k
  · subst e
    rw [List.getElem?_set_self (by rw [h.1]; exact (List.getElem?_eq_some_iff.1 hy).1)] at h3
    rw [hy] at h1; rw [ht] at h2
    obtain rfl := Option.some.inj h1
    obtain rfl := Option.some.inj h2
    exact (Option.some.inj h3).symm
  · rw [List.getElem?_set_ne (fun e' => e e'.symm)] at h3
    exact h.2 j y' t' m' (by omega) h1 h2 h3
theorem view_atP {b : List Bu} (P : Pu) {k : Nat} {y : Bu} (h : b[k]? = some y) : (viewB b P)[k]? = some ⟨y.lang, (P y.lang).getD q0⟩ := by
  unfold viewB; rw [List.getElem?_map, h]; rfl
set_option maxHeartbeats 8000000 in
set_option maxRecDepth 100000 in
theorem trades9 (b : List Bu) (P : Pu) (T : List Int) (s : Nat) (no at_ known : Int) (A : Option Addr) (c : Nat) (B : Option Addr) (d : Nat) (w : World) (hS : Sl buC 5 w A c (viewB b P)) (hT : Sl ic 1 w B d T) (hs : s < 4) (hP : okP P) (hb : b.Pairwise fun x y => x.lang < y.lang) (hl : b.length ≤ 6)
    (hTl : T.length = b.length) (hTb : ∀ t ∈ T, 0 ≤ t ∧ t ≤ 1073741824) (hTs : T.sum = (b.map fun y => valP P y.lang (s : Int)).sum) (hno : 0 ≤ no ∧ no ≤ 2097152) :
    Calls Tryz.prog 9 #[.slice A b.length c, .int .i64 s, .slice B T.length d, .int .i64 no, .int .i64 at_, .int .i64 known] w fun e w' => ∃ (A' : Option Addr) (c' : Nat) (ts : List Tr), e = .returned (.slice A' ts.length c') ∧ Sl trC 7 w' A' c' ts ∧ Done b P (s : Int) no at_ known T ts ∧ ts.length ≤ 36 ∧ Below w.heap.size w w' := by
  have hvl : (viewB b P).length = b.length := view_len b P
  have hlc := hS.le
  rw [hvl] at hlc
  have hc := hS.max
  have hld := hT.le
  have hdm := hT.max
  have hst : stage (s : Int) := ⟨by omega, by omega⟩
  have HVA := hide (fun k y (h : b[k]? = some y) => view_atP P h)
  have HQ := hide (fun n => okQ_get (okP_get hP n) (s : Int))
  obtain ⟨i0, hi, hz0, hz1, hz2⟩ := info_parts Try_infoI
  have hmk : ∀ W : World, (Instr.makeSlice 24 (.int .i64 (b.length : Int)) (.int .i64 (b.length : Int))).run Tryz.prog W = .ok (.slice (some ⟨W.heap.size, 0, none⟩) b.length b.length) (W.alloc (.cells (madeCells #[.int .i64 0] b.length) 3)) := fun W => by
    have := run_make_rowN 24 3 i0 _ Tryz.underlying24 hi hz0 .i64 .i64 b.length b.length (Nat.le_refl _) (by rw [hz2]; omega) (by omega) W
    rw [hz1, Nat.mul_one] at this; exact this
  obtain ⟨i1, hi1, hy0, hy1, hy2⟩ := info_parts Try_infoT
  have HI1 := hide hi1
  have HS := hide hS
  have HT := hide hT
  obtain ⟨w1, hw1⟩ : ∃ w1, w.alloc (.cells (madeCells #[.int .i64 0] b.length) 3) = w1 := ⟨_, rfl⟩
  have HO1 : Hid (OwnL ic 1 3 w1 w.heap.size (.slice (some ⟨w.heap.size, 0, none⟩) b.length b.length) (List.replicate b.length (0 : Int))) := hide (by rw [← hw1]; exact own_made (by omega))
  have HB1 : Hid (Below w.heap.size w w1) := hide (by rw [← hw1]; exact kalloc (Below.refl _ _) _)
  have h1z : w1.heap.size = w.heap.size + 1 := by rw [← hw1]; simp
  have hsz : (s : Int) < 4 := by omega
  clear hS hT hi hi1 hlc
  have hlc := HS.out.le
  rw [hvl] at hlc
  rw [hTl]
  go_enter Tryz.func9, Tryz.ntmps9
  go_wp2
  go_loopw [14, 24] (fun _ i wr => ∃ (k : Nat) (M : List Int), k ≤ b.length ∧ i = .int .i64 k ∧ Hid (OwnL ic 1 3 wr w.heap.size (.slice (some ⟨w.heap.size, 0, none⟩) b.length b.length) M) ∧ Hid (MoreP b P s T M k) ∧ Hid (Below w.heap.size w wr) ∧ w.heap.size + 1 ≤ wr.heap.size) (fun _ i _ => b.length - (nI i).toNat)
  case atStart => exact ⟨0, _, Nat.zero_le _, rfl, HO1, ⟨by simp, fun j _ _ _ hj => by omega⟩, HB1, by omega⟩
  case round =>
    clear HO1 HB1 hw1 h1z w1
    obtain ⟨k, M, hk, rfl, HO, HM, HB, hz⟩ := hrel
    by_cases hlt : k < b.length
    · obtain ⟨x, bb, off, hx, hdr, rfl, hbw, c0, c1, c2, c3, c4⟩ := Sl.bu_at (HS.out.bel HB.out) (show k < (viewB b P).length by omega)
      obtain ⟨y, hy⟩ : ∃ y, b[k]? = some y := ⟨_, List.getElem?_eq_getElem hlt⟩
      have hxy := HVA.out k y hy
      rw [hx] at hxy
      obtain rfl := Option.some.inj hxy
      have kz : (k : Int) < (b.length : Int) := by omega
      have hqx := HQ.out y.lang
      unfold most at hqx
      have hval : valP P y.lang (s : Int) = qg ((P y.lang).getD q0) (s : Int) := rfl
      obtain ⟨w2, hw2⟩ : ∃ w2, wr.alloc (.cells #[.int .i64 y.lang, .int .i64 ((P y.lang).getD q0).1, .int .i64 ((P y.lang).getD q0).2.1, .int .i64 ((P y.lang).getD q0).2.2.1, .int .i64 ((P y.lang).getD q0).2.2.2] 30) = w2 := ⟨_, rfl⟩
      have X2 : Blk w2 wr.heap.size 30 (buC ⟨y.lang, (P y.lang).getD q0⟩).toArray := by rw [← hw2]; exact Blk.new _ _ _
      have hB2 : Below w.heap.size w w2 := by rw [← hw2]; exact kalloc HB.out _
      have hO2 : OwnL ic 1 3 w2 w.heap.size (.slice (some ⟨w.heap.size, 0, none⟩) b.length b.length) M := by rw [← hw2]; exact HO.out.alloc _
      have h2z : w2.heap.size = wr.heap.size + 1 := by rw [← hw2]; simp
      obtain ⟨t, bt, offt, ht, _, rfl, hbt, e0⟩ := Sl.ic_at (HT.out.bel hB2) (show k < T.length by omega)
      have htb := hTb t (List.mem_of_getElem? ht)
      have HMN := hide (HM.out.next hy ht)
      have hml := HM.out.1
      obtain ⟨m, hm⟩ : ∃ m, M[k]? = some m := ⟨_, List.getElem?_eq_getElem (by omega)⟩
      obtain ⟨g, cap, e', hg1, hg2, hcap, hcapm, hfz, hcc, hput⟩ := own_at hO2 hm
      injection e' with e1 e2 e3
      injection e1 with e1
      injection e1 with e1
      subst e1 e3
      clear e2
      have p0 := hcc 0 _ (show (ic m)[0]? = some (.int .i64 m) from rfl)
      have z0 := hfz (k * 1)
      simp only [Nat.mul_one, Nat.add_zero] at p0 z0
      have y0 := X2.cell (1 + s) (buC_get _ s hs)
      have yl := X2.lt
      have hwv : IntKind.i64.wrap (t - qg ((P y.lang).getD q0) (s : Int)) = t - qg ((P y.lang).getD q0) (s : Int) := by rw [IntKind.wrap_i64]; omega
      rw [hval] at HMN
      have HP := hide hput
      have HB2 := hide hB2
      clear hx hdr hy ht hm hcc hput hfz X2 hB2 hO2 hxy hqx htb hval HO HM HB
      generalize qg ((P y.lang).getD q0) (s : Int) = q at *
      go_wp2_with fail
      refine wp_still_tail 11 (by kernel_rfl) (by kernel_rfl) ?_
      simp only [List.take_succ_cons, List.take_zero, List.drop_succ_cons, List.drop_zero]
      repeat ((with_reducible refine wpStill_step (fun K hK => ?_)); go_simp; (try go_bits); (with_reducible refine hK _ ?_); clear hK K)
      (with_reducible refine wpStill_nil ?_)
      go_wp2
      go_roundw
      case rel => exact ⟨k + 1, _, by omega, by go_num, (HP.out 0 (.int .i64 (t - q)) (t - q) _ (by simp only [Nat.mul_one, Nat.add_zero]; rfl) (by decide) rfl), HMN, (HB2.out.setCell (by dsimp only; omega) _).drew, by simp [World.setCell]; omega⟩
      case measure => simp [nI]; omega
    · obtain rfl : k = b.length := by omega
      have HD0 : Hid (Deal b P (s : Int) no at_ known T M []) := hide (Deal.start hP hTl hTs HM.out.1 (fun j y t m h1 h2 h3 => HM.out.2 j y t m (List.getElem?_eq_some_iff.1 h1).1 h1 h2 h3))
      go_wp2
      go_loopw [3, 12, 44] (fun v3 v12 i wr => ∃ (f : Nat) (M : List Int) (ts : List Tr), f ≤ b.length ∧ i = .int .i64 f ∧ v3 = .int .i64 (no + ts.length) ∧ ts.length ≤ f * 6 ∧ Hid (OwnL trC 7 38 wr (w.heap.size + 1) v12 ts) ∧ Hid (OwnL ic 1 3 wr w.heap.size (.slice (some ⟨w.heap.size, 0, none⟩) b.length b.length) M) ∧ Hid (Deal b P (s : Int) no at_ known T M ts) ∧ Hid (Sgn M f 0) ∧ Hid (Below w.heap.size w wr) ∧ w.heap.size + 1 ≤ wr.heap.size) (fun _ _ i _ => b.length - (nI i).toNat)
      case atStart => exact ⟨0, M, [], Nat.zero_le _, rfl, by simp, by simp, OwnL.nil _ _ _ _ _, HO, HD0, Sgn.start M, HB, hz⟩
      case round =>
        clear HD0 HM HO HB hz
        obtain ⟨f, M, ts, hf, rfl, rfl, hts, HOt, HO, HDe, HSg, HB, hz⟩ := hrel
        by_cases hlt : f < b.length
        · have fz : (f : Int) < (b.length : Int) := by omega
          go_wp2
          go_loopw [3, 12, 49] (fun v3 v12 i wr => ∃ (t : Nat) (M : List Int) (ts : List Tr), t ≤ b.length ∧ i = .int .i64 t ∧ v3 = .int .i64 (no + ts.length) ∧ ts.length ≤ f * 6 + t ∧ Hid (OwnL trC 7 38 wr (w.heap.size + 1) v12 ts) ∧ Hid (OwnL ic 1 3 wr w.heap.size (.slice (some ⟨w.heap.size, 0, none⟩) b.length b.length) M) ∧ Hid (Deal b P (s : Int) no at_ known T M ts) ∧ Hid (Sgn M f t) ∧ Hid (Below w.heap.size w wr) ∧ w.heap.size + 1 ≤ wr.heap.size) (fun _ _ i _ => b.length - (nI i).toNat)
          case atStart => exact ⟨0, M, ts, Nat.zero_le _, rfl, rfl, by omega, HOt, HO, HDe, HSg, HB, hz⟩
          case round =>
            clear HOt HO HDe HSg HB hz hts
            obtain ⟨t, M, ts, ht, rfl, rfl, hts, HOt, HO, HDe, HSg, HB, hz⟩ := hrel
            by_cases hlt2 : t < b.length
            · have tz : (t : Int) < (b.length : Int) := by omega
              have hml := HDe.out.len
              obtain ⟨yf, hyf⟩ : ∃ y, b[f]? = some y := ⟨_, List.getElem?_eq_getElem hlt⟩
              obtain ⟨yt, hyt⟩ : ∃ y, b[t]? = some y := ⟨_, List.getElem?_eq_getElem hlt2⟩
              obtain ⟨tf, htf⟩ : ∃ x, T[f]? = some x := ⟨_, List.getElem?_eq_getElem (by omega)⟩
              obtain ⟨tt, htt⟩ : ∃ x, T[t]? = some x := ⟨_, List.getElem?_eq_getElem (by omega)⟩
              obtain ⟨m, hm⟩ : ∃ x, M[f]? = some x := ⟨_, List.getElem?_eq_getElem (by omega)⟩
              obtain ⟨n, hn⟩ : ∃ x, M[t]? = some x := ⟨_, List.getElem?_eq_getElem (by omega)⟩
              have hvf := HDe.out.val f yf tf m hyf htf hm
              have hvt := HDe.out.val t yt tt n hyt htt hn
              have hof := okQ_get (okP_get HDe.out.ok yf.lang) (s : Int)
              have hot := okQ_get (okP_get HDe.out.ok yt.lang) (s : Int)
              have ef : valP (ts.foldl perf P) yf.lang (s : Int) = qg ((ts.foldl perf P yf.lang).getD q0) (s : Int) := rfl
              have et : valP (ts.foldl perf P) yt.lang (s : Int) = qg ((ts.foldl perf P yt.lang).getD q0) (s : Int) := rfl
              unfold most at hof hot
              have hbf := hTb tf (List.mem_of_getElem? htf)
              have hbt := hTb tt (List.mem_of_getElem? htt)
              have hmb : -1073741824 ≤ m ∧ m ≤ 1073741824 := by omega
              have hnb : -1073741824 ≤ n ∧ n ≤ 1073741824 := by omega
              have hwm : IntKind.i64.wrap (-m) = -m := by rw [IntKind.wrap_i64]; omega
              obtain ⟨q, hq⟩ : ∃ q, q = min (-m) n := ⟨_, rfl⟩
              have hmn : (if n < -m then n else -m) = q := by omega
              have hqb : -1073741824 ≤ q ∧ q ≤ 1073741824 := by omega
              obtain ⟨g, cap, e', hg1, hg2, hcap, hcapm, hfz, hcf, _⟩ := own_at HO.out hm
              injection e' with e1 e2 e3
              injection e1 with e1
              injection e1 with e1
              subst e1 e3
              obtain ⟨_, _, e', _, _, _, _, _, hct, _⟩ := own_at HO.out hn
              injection e' with e1 e4 e5
              injection e1 with e1
              injection e1 with e1
              subst e1
              clear e4 e5
              have pf := hcf 0 _ (show (ic m)[0]? = some (.int .i64 m) from rfl)
              have pt := hct 0 _ (show (ic n)[0]? = some (.int .i64 n) from rfl)
              simp only [Nat.mul_one, Nat.add_zero] at pf pt
              have HXF := hide hyf
              have HXT := hide hyt
              have HMF := hide hm
              have HMT := hide hn
              have hgw := hg2
              have HQQ := hide hq
              have hmn2 : min (-m) n = q := hq.symm
              clear e2 hyf hyt htf htt hm hn hvf hvt hof hot ef et hbf hbt hfz hcf hct hml hg1 hg2 hq
              by_cases hpos : 0 < q
              · have gq : decide (0 < q) = true := decide_eq_true hpos
                have HDN := hide (HDe.out.step hb hst (fun t h => by have := hTb t h; unfold most; exact this) hTl HXF.out HXT.out HMF.out HMT.out HQQ.out hpos)
                have HSN := hide (HSg.out.step HMF.out HMT.out HQQ.out hpos)
                have hft : f ≠ t := by rintro rfl; have := HMF.out.symm.trans HMT.out; have := Option.some.inj this; have := HQQ.out; omega
                obtain ⟨W, hW⟩ : ∃ W, wr.drew = W := ⟨_, rfl⟩
                have hBW : Below w.heap.size w W := by rw [← hW]; exact HB.out.drew
                have hOtW : OwnL trC 7 38 W (w.heap.size + 1) u12 ts := by rw [← hW]; exact HOt.out.drew
                have hOW : OwnL ic 1 3 W w.heap.size (.slice (some ⟨w.heap.size, 0, none⟩) b.length b.length) M := by rw [← hW]; exact HO.out.drew
                have hzW : w.heap.size + 1 ≤ W.heap.size := by rw [← hW]; exact hz
                have pf2 : W.cell? ⟨w.heap.size, f, none⟩ = some (.int .i64 m) := by rw [← hW]; exact pf
                have pt2 : W.cell? ⟨w.heap.size, t, none⟩ = some (.int .i64 n) := by rw [← hW]; exact pt
                obtain ⟨xf, bb, off, hxf, _, rfl, hbw, cf, _⟩ := Sl.bu_at (HS.out.bel hBW) (show f < (viewB b P).length by omega)
                obtain ⟨xt, bb', off', hxt, _, e', _, ct, _⟩ := Sl.bu_at (HS.out.bel hBW) (show t < (viewB b P).length by omega)
                cases e'
                have e6 := HVA.out f yf HXF.out
                rw [hxf] at e6
                obtain rfl := Option.some.inj e6
                have e7 := HVA.out t yt HXT.out
                rw [hxt] at e7
                obtain rfl := Option.some.inj e7
                obtain ⟨_, _, _, _, _, e8, hbw0, _⟩ := Sl.bu_at HS.out (show f < (viewB b P).length by omega)
                cases e8
                dsimp only at cf ct
                have HOtW := hide hOtW
                have HOW := hide hOW
                have HBW := hide hBW
                have hts2 : ts.length ≤ 42 := by omega
                clear e6 e7 hxf hxt hOW hOtW hBW
                go_wp2_with fail
                refine wp_still_all (by kernel_rfl) (by kernel_rfl) ?_
                repeat ((with_reducible refine wpStill_step (fun K hK => ?_)); go_simp; (try go_bits); (with_reducible refine hK _ ?_); clear hK K)
                (with_reducible refine wpStill_nil ?_)
                go_wp2_with fail
                obtain ⟨tr, htr⟩ : ∃ tr : Tr, tr = ⟨no + ts.length, at_, known, (s : Int), yf.lang, yt.lang, q⟩ := ⟨_, rfl⟩
                have hvo : ∀ g, some g = u12.ownBlock → w.heap.size + 1 ≤ g ∧ g < W.heap.size := fun g hg => by
                  obtain ⟨h1, h2, _⟩ := HOtW.out.blk hg.symm
                  exact ⟨h1, h2⟩
                go_region_held3 (fun w' => w'.cell? ⟨bb, off + f * 5, none⟩ = some (.int .i64 yf.lang) ∧ w'.cell? ⟨bb, off + t * 5, none⟩ = some (.int .i64 yt.lang))
                  (first | exact ⟨cf, ct⟩ | exact ⟨f0, f1⟩ | go_keep)
                  (first
                    | (refine step_append (v := u12) (u := .slice (some ⟨_, 0, none⟩) 1 1) rfl (.tmp 64) (.tmp 81) 23 rfl rfl rfl (run_extend (f := trC) (base := w.heap.size + 1) (l1 := ts) (l2 := [tr]) Tryz.underlying23 HI1.out hy0 hy1 hy2 rfl (by decide) (HOtW.out.alloc _).drew (Sl.one (Blk.new _ _ _).drew (by rw [htr]; rfl) rfl (by decide) (by decide)) (fun x _ => tr_one x) (by simp [maxLen]; omega) (by simp; omega) (by simp; omega)) ?_
                       rintro v' w' ⟨gO, gG, gB⟩
                       have f0 := gcell (b := bb) (o := off + f * 5) (v := .int .i64 yf.lang) gG (by simp; omega) (fun e => by have := hvo _ e; omega) (by simp [go_sem, cf, hbw])
                       have f1 := gcell (b := bb) (o := off + t * 5) (v := .int .i64 yt.lang) gG (by simp; omega) (fun e => by have := hvo _ e; omega) (by simp [go_sem, ct, hbw])
                       have gN : W.heap.size ≤ w'.heap.size := Nat.le_trans (by simp <;> omega) gG.size
                       have gM : OwnL ic 1 3 w' w.heap.size (.slice (some ⟨w.heap.size, 0, none⟩) b.length b.length) M := OwnL.grown (HOW.out.alloc _).drew gG (fun g hg e => by have h1 : w.heap.size = g := Option.some.inj hg; have := hvo g e; omega)
                       have gBel : Below w.heap.size w w' := Below.grown (kalloc HBW.out _).drew gG (by simp; omega) (fun g hg => by have := hvo g hg.symm; omega)))
                all_goals
                  obtain ⟨_, _, e9, _, _, _, _, hfz1, hcc1, hput1⟩ := own_at gM HMF.out
                  injection e9 with e9 e10 e11
                  injection e9 with e9
                  injection e9 with e9
                  subst e9
                  clear e10 e11
                  have p1 := hcc1 0 _ (show (ic m)[0]? = some (.int .i64 m) from rfl)
                  have z1 := hfz1 (f * 1)
                  simp only [Nat.mul_one, Nat.add_zero] at p1 z1
                  obtain ⟨w2, hw2⟩ : ∃ w2, w'.setCell ⟨w.heap.size, f, none⟩ (.int .i64 (m + q)) = w2 := ⟨_, rfl⟩
                  have gM2 := hput1 0 (.int .i64 (m + q)) (m + q) w2 (by rw [← hw2]; simp only [Nat.mul_one, Nat.add_zero]) (by decide) rfl
                  have HMT2 : (M.set f (m + q))[t]? = some n := by rw [List.getElem?_set_ne hft]; exact HMT.out
                  obtain ⟨_, _, e9, _, _, _, _, hfz2, hcc2, hput2⟩ := own_at gM2 HMT2
                  injection e9 with e9 e10 e11
                  injection e9 with e9
                  injection e9 with e9
                  subst e9
                  clear e10 e11
                  have p2 := hcc2 0 _ (show (ic n)[0]? = some (.int .i64 n) from rfl)
                  have z2 := hfz2 (t * 1)
                  simp only [Nat.mul_one, Nat.add_zero] at p2 z2
                  obtain ⟨w3, hw3⟩ : ∃ w3, w2.setCell ⟨w.heap.size, t, none⟩ (.int .i64 (n - q)) = w3 := ⟨_, rfl⟩
                  have HM3 := hide (hput2 0 (.int .i64 (n - q)) (n - q) w3 (by rw [← hw3]; simp only [Nat.mul_one, Nat.add_zero]) (by decide) rfl)
                  have s2 : w2.heap.size = w'.heap.size := by rw [← hw2]; simp [World.setCell]
                  have s3 : w3.heap.size = w'.heap.size := by rw [← hw3, ← hw2]; simp [World.setCell]
                  have HB3 : Hid (Below w.heap.size w w3) := hide (by rw [← hw3, ← hw2]; exact (gBel.setCell (by dsimp only; omega) _).setCell (by dsimp only; omega) _)
                  have HO3 : Hid (OwnL trC 7 38 w3 (w.heap.size + 1) v' (ts ++ [tr])) := hide (gO.keep fun g hg => by
                    have := (gO.blk hg).1
                    rw [← hw3, ← hw2]
                    exact (Below.heap_setCell _ _ _ _ (by dsimp only; omega)).trans (Below.heap_setCell _ _ _ _ (by dsimp only; omega)))
                  have wq1 : IntKind.i64.wrap (m + q) = m + q := by rw [IntKind.wrap_i64]; omega
                  have wq2 : IntKind.i64.wrap (n - q) = n - q := by rw [IntKind.wrap_i64]; omega
                  have wq3 : IntKind.i64.wrap (no + (ts.length : Int) + 1) = no + (ts.length : Int) + 1 := by rw [IntKind.wrap_i64]; omega
                  rw [← htr] at HDN
                  have hl3 : w.heap.size < w'.heap.size := by omega
                  have hl2 : w.heap.size < w2.heap.size := by omega
                  clear gO gG gB gM gM2 gBel f0 f1 cf ct hfz1 hfz2 hcc1 hcc2 hput1 hput2 HMT2 pf pt pf2 pt2 hW htr
                  go_wp2
                  go_roundw
                  case rel => exact ⟨t + 1, _, ts ++ [tr], by omega, by go_num, by simp only [List.length_append, List.length_singleton]; congr 1; omega, by simp only [List.length_append, List.length_singleton]; omega, HO3, HM3, HDN, HSN, HB3, by omega⟩
                  case measure => simp [nI]; omega
              · have gq : decide (0 < q) = false := decide_eq_false hpos
                have HSN := hide (HSg.out.skip HMF.out HMT.out (by have := HQQ.out; omega))
                have HOt2 := hide HOt.out.drew
                have HO2 := hide HO.out.drew
                have HB2 := hide HB.out.drew
                go_wp2_with fail
                refine wp_still_all (by kernel_rfl) (by kernel_rfl) ?_
                repeat ((with_reducible refine wpStill_step (fun K hK => ?_)); go_simp; (try go_bits); (with_reducible refine hK _ ?_); clear hK K)
                (with_reducible refine wpStill_nil ?_)
                go_wp2
                go_roundw
                case rel => exact ⟨t + 1, M, ts, by omega, by go_num, rfl, by omega, HOt2, HO2, HDe, HSN, HB2, hz⟩
                case measure => simp [nI]; omega
            · obtain rfl : t = b.length := by omega
              have HSN := hide (Sgn.next (by rw [HDe.out.len]; exact HSg.out) HDe.out.sum)
              go_wp2
              go_roundw
              case rel => exact ⟨f + 1, M, ts, by omega, by go_num, rfl, by omega, HOt, HO, HDe, HSN, HB, hz⟩
              case measure => simp [nI]; omega
        · obtain rfl : f = b.length := by omega
          have HDD := hide (HDe.out.done (by rw [HDe.out.len]; exact HSg.out))
          obtain ⟨A9, c9, rfl, hS9⟩ := HOt.out.sl
          have HS9 := hide hS9
          clear hS9 HOt HO HDe HSg
          go_wp2
          go_ret
          exact ⟨_, _, ts, rfl, HS9.out, HDD.out, by omega, HB.out⟩
end Go.Proofs.YtnngemgfochodaaGreat
