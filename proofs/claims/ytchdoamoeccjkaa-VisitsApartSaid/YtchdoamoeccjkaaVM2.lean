/-
  visits: within; the acts and what they do.
  visits: a visit is performed, if it is possible.
  visits: a visit is performed as the plain law says.
-/
import Derived.Test.YtchdoamoeccjkaaVM1
import Derived.Test.YtchdoamoeccjkaaRHit
import Derived.Test.YtchdoamoeccjkaaMapIns
import Derived.Test.YtchdoamoeccjkaaVStore
import Derived.Test.YtchdoamoeccjkaaQuietB
import Derived.BigRegion
import Derived.Deep.RegionHeld3
namespace Go.Proofs.Ytchdoamoeccjkaa
open Go.RowKit Go.Mine Go.Mine.V
attribute [local go_sem] Oper.semAt_some

theorem withinV_any (n lim : Int) (w : World) : Calls Try.prog 47 #[.int .i64 n, .int .i64 lim] w fun e w' => e = .returned (.bool (inB n lim)) ∧ w = w' := by
  have H := hide (inB_iff (n := n) (lim := lim))
  generalize inB n lim = r at H ⊢
  by_cases h1 : 0 ≤ n
  all_goals
    go_enter Try.func47, Try.ntmps47
    go_wp2
    go_ret
    exact ⟨ret_bool (by rw [Bool.eq_iff_iff]; rw [H.out]; first | omega | (simp; done) | (simp; omega)), rfl⟩
/-- a viewer as a value -/
def vwV (o : Bool) (g : Int) : Value := .agg #[.bool o, .int .i64 g]
def actC (j off on nm : Bool) (f : Value) : List Value := [.bool j, .bool off, .bool on, .bool nm, f]
/-- the acts, flat -/
def actsL : List Value := [.bool false, .bool false, .bool false, .bool false, .nilFunc, .bool false, .bool true, .bool false, .bool true, .func (.func 90) #[] #[], .bool true, .bool true, .bool true, .bool true, .func (.func 91) #[] #[],
  .bool true, .bool false, .bool true, .bool false, .func (.func 92) #[] #[], .bool true, .bool true, .bool false, .bool false, .func (.func 93) #[] #[]]
def actsV : Value := .agg actsL.toArray
theorem join_any (o : Bool) (k g : Int) (w : World) : Calls Try.prog 90 #[vwV o k, .int .i64 g] w fun e w' => e = .returned (vwV true g) ∧ Below w.heap.size w w' := by
  unfold vwV
  go_enter Try.func90, Try.ntmps90
  go_wp2
  refine bodyPost_ret (v := vwV true g) (by simp [results, Try.results90, go_sem, vwV]) rfl ⟨rfl, ?_⟩
  exact (kalloc (kalloc (Below.refl _ _) _) _)
theorem lang_any (o : Bool) (k g : Int) (w : World) : Calls Try.prog 91 #[vwV o k, .int .i64 g] w fun e w' => e = .returned (vwV o g) ∧ Below w.heap.size w w' := by
  unfold vwV
  go_enter Try.func91, Try.ntmps91
  go_wp2
  refine bodyPost_ret (v := vwV o g) (by simp [results, Try.results91, go_sem, vwV]) rfl ⟨rfl, ?_⟩
  exact (kalloc (kalloc (Below.refl _ _) _) _)
theorem leave_any (o : Bool) (k g : Int) (w : World) : Calls Try.prog 92 #[vwV o k, .int .i64 g] w fun e w' => e = .returned (vwV false k) ∧ Below w.heap.size w w' := by
  unfold vwV
  go_enter Try.func92, Try.ntmps92
  go_wp2
  refine bodyPost_ret (v := vwV false k) (by simp [results, Try.results92, go_sem, vwV]) rfl ⟨rfl, ?_⟩
  exact (kalloc (kalloc (Below.refl _ _) _) _)
theorem back_any (o : Bool) (k g : Int) (w : World) : Calls Try.prog 93 #[vwV o k, .int .i64 g] w fun e w' => e = .returned (vwV true k) ∧ Below w.heap.size w w' := by
  unfold vwV
  go_enter Try.func93, Try.ntmps93
  go_wp2
  refine bodyPost_ret (v := vwV true k) (by simp [results, Try.results93, go_sem, vwV]) rfl ⟨rfl, ?_⟩
  exact (kalloc (kalloc (Below.refl _ _) _) _)
theorem acts_any (w : World) : Calls Try.prog 78 #[] w fun e w' => e = .returned actsV ∧ Below w.heap.size w w' := by
  go_enter Try.func78, Try.ntmps78
  go_wp2_with (refine wpList_lay rfl _ _ 114 rfl (l := actsL) (Blk.new _ _ _) ?_ ?_ ?_ rfl rfl ?_)
  · kernel_rfl
  · rfl
  · simp [actsL, Value.oneCell']
  · intro w' h1 h2
    have hB := h2 w.heap.size w (Nat.le_refl _) (kalloc (Below.refl _ _) _)
    have e2 := load_list (P := Try.prog) h1 25 0 #[] (by rw [layCells_size]; exact Nat.le_refl _)
    go_wp2
    refine bodyPost_ret (v := actsV) ?_ rfl ⟨rfl, hB⟩
    have e4 : (sizeOf 114).run Try.prog w' = .ok 25 w' := by kernel_rfl
    have e5 : (isAgg 114).run Try.prog w' = .ok true w' := by kernel_rfl
    have e3 : (loadCellsFrom ⟨w.heap.size, 0, none⟩ 0 25 #[]).run Try.prog w' = .ok actsL.toArray w' := e2.trans (by kernel_rfl)
    simp [results, Try.results78, asAddr, loadVar, loadCells, e3, e4, e5, Result.andThen, actsV]
end Go.Proofs.Ytchdoamoeccjkaa
namespace Go.Proofs.Ytchdoamoeccjkaa
open Go.RowKit Go.Mine Go.Mine.V
attribute [local go_sem] Oper.semAt_some

def viC (x : Vi) : List Value := [.int .i64 x.t, .int .i64 x.who, .int .i64 x.k, .int .i64 x.g]
def viV (x : Vi) : Value := .agg #[.int .i64 x.t, .int .i64 x.who, .int .i64 x.k, .int .i64 x.g]
def ViS (x : Vi) : Prop := I64 x.t ∧ I64 x.who ∧ I64 x.k ∧ I64 x.g
/-- a state as a map's value -/
def stV (s : Bool × Int) : Value := vwV s.1 s.2
def audM (a : Aud) : Int → Option Value := fun w => (a w).map stV
theorem audM_put (a : Aud) (w : Int) (s : Bool × Int) : upd (audM a) w (stV s) = audM (put a w (some s)) := by
  funext j
  unfold upd audM put
  by_cases h : j = w
  · simp [h]
  · simp [h]
theorem audM_nobody : audM nobody = fun _ => none := rfl
theorem within_is {n lim : Int} {r : Bool} (h : inB n lim = r) (w : World) : Calls Try.prog 47 #[.int .i64 n, .int .i64 lim] w fun e w' => e = .returned (.bool r) ∧ w = w' := h ▸ withinV_any n lim w

theorem store_func {P : Program} {w : World} {a : Addr} {m : Mode} (f : Fn) (x y : Array Value) : (store a (.func f x y) m).run P w = stored P w a (.func f x y) m := run_store P w a _ m rfl
theorem store_nilFunc {P : Program} {w : World} {a : Addr} {m : Mode} : (store a .nilFunc m).run P w = stored P w a .nilFunc m := run_store P w a _ m rfl
attribute [local go_sem] store_func store_nilFunc
theorem wrap_in {k : Int} (hk : -9223372036854775808 ≤ k ∧ k ≤ 9223372036854775807) : inB (wrap64 (k - 1)) 4 = inB (k - 1) 4 := by
  by_cases h : k = -9223372036854775808
  · subst h; simp [inB, wrap64]
  · rw [IntWalk.wrap64_in _ (by omega)]
/-- a visit that is not formed -/
theorem perform_unformed (x : Vi) (b : Nat) (w : World) (hx : ViS x) (hf : formed x = false) :
    Calls Try.prog 51 #[.map (some b), viV x] w fun e w' => e = .returned (.bool false) ∧ Below w.heap.size w w' := by
  obtain ⟨t, who, k, g⟩ := x
  simp only [ViS, I64, viV, formed] at *
  have K := kalloc (Below.refl w.heap.size w) (.cells #[.int .i64 t, .int .i64 who, .int .i64 k, .int .i64 g] 40)
  have B := Blk.new w #[.int .i64 t, .int .i64 who, .int .i64 k, .int .i64 g] 40
  have hlt := B.lt
  have c0 := B.cell 0 rfl
  have c1 := B.cell 1 rfl
  have c2 := B.cell 2 rfl
  have c3 := B.cell 3 rfl
  clear B
  have hcase : inB t V.End = false ∨ (inB t V.End = true ∧ inB who 100000 = false) ∨ (inB t V.End = true ∧ inB who 100000 = true ∧ inB (k - 1) 4 = false) ∨ (inB t V.End = true ∧ inB who 100000 = true ∧ inB (k - 1) 4 = true ∧ inB g 32 = false) := by
    revert hf; generalize inB t V.End = p; generalize inB who 100000 = q; generalize inB (k - 1) 4 = r; generalize inB g 32 = s; cases p <;> cases q <;> cases r <;> cases s <;> simp
  rw [← wrap_in hx.2.2.1] at hcase
  clear hf
  rw [show V.End = 1099511627776 from rfl] at hcase
  rcases hcase with h1 | ⟨h1, h2⟩ | ⟨h1, h2, h3⟩ | ⟨h1, h2, h3, h4⟩
  all_goals
    go_enter Try.func51, Try.ntmps51
    go_wp2_with fail
    have n0 := BW.get hlt c0
    have n1 := BW.get hlt c1
    have n2 := BW.get hlt c2
    have n3 := BW.get hlt c3
    (refine wp_quiet_below (by kernel_rfl) (by kernel_rfl) ?_; (repeat (go_big_quiet_step ((first | (go_at_call 47; (first | with_reducible exact quiet_same (within_is h1 _) | with_reducible exact quiet_same (within_is h2 _) | with_reducible exact quiet_same (within_is h3 _) | with_reducible exact quiet_same (within_is h4 _))) | (go_at_call 78; exact quiet_below (acts_any _)))))); refine wpQuiet_nil ?_; rintro _ ⟨z, rfl⟩)
    clear n0 n1 n2 n3 hlt c0 c1 c2 c3
    go_wp2
    go_ret
    exact ⟨rfl, K.trans (z.below.mono (by simp))⟩

def actA (j off on nm : Bool) (f : Nat) : Array Value := #[.bool j, .bool off, .bool on, .bool nm, .func (.func f) #[] #[]]
def okB (J OFF ON NM Jd O : Bool) (g : Int) : Bool := (Jd == J) && (if O = true then ON else OFF) && (decide (g = 0) || NM)
set_option maxRecDepth 100000 in
set_option maxHeartbeats 4000000 in
theorem perform_gen (t who k g : Int) (m : Int → Option Value) (b n : Nat) (w : World) (hx : ViS ⟨t, who, k, g⟩) (hf : formed ⟨t, who, k, g⟩ = true) (hM : MapI Try.prog 3 w b n m) (hn : n < maxLen)
    (J OFF ON NM : Bool) (F : Nat) (hidx : ∀ w, (Instr.index 114 actsV (.int .i64 k)).run Try.prog w = .ok (.agg #[.bool J, .bool OFF, .bool ON, .bool NM, .func (.func F) #[] #[]]) w) (hF : ∀ args w, (callFunc F args).run Try.prog w = .ok (.enter F args) w)
    (Jd O : Bool) (L : Int) (hl0 : (m who).getD (.agg #[.bool false, .int .i64 0]) = .agg #[.bool O, .int .i64 L]) (hl1 : (m who).isSome = Jd) (v : Value) (KF : ∀ w, Calls Try.prog F #[.agg #[.bool O, .int .i64 L], .int .i64 g] w fun e w' => e = .returned v ∧ Below w.heap.size w w') :
    Calls Try.prog 51 #[.map (some b), viV ⟨t, who, k, g⟩] w fun e w' => e = .returned (.bool (okB J OFF ON NM Jd O g)) ∧ MapI Try.prog 3 w' b (n + 1) (if okB J OFF ON NM Jd O g = true then upd m who v else m) ∧ w.grownBy w' (some b) := by
  have HOK := hide (show okB J OFF ON NM Jd O g = ((Jd == J) && (if O = true then ON else OFF) && (decide (g = 0) || NM)) from rfl)
  have KF := hide KF
  generalize okB J OFF ON NM Jd O g = R at *
  simp only [ViS, I64, viV, formed] at *
  have K := kalloc (Below.refl w.heap.size w) (.cells #[.int .i64 t, .int .i64 who, .int .i64 k, .int .i64 g] 40)
  have B := Blk.new w #[.int .i64 t, .int .i64 who, .int .i64 k, .int .i64 g] 40
  have hM0 := hM.alloc (.cells #[.int .i64 t, .int .i64 who, .int .i64 k, .int .i64 g] 40)
  have hlt := B.lt
  have c0 := B.cell 0 rfl
  have c1 := B.cell 1 rfl
  have c2 := B.cell 2 rfl
  have c3 := B.cell 3 rfl
  simp only [Bool.and_eq_true] at hf
  obtain ⟨⟨⟨h1, h2⟩, h3⟩, h4⟩ := hf
  rw [← wrap_in hx.2.2.1] at h3
  rw [show V.End = 1099511627776 from rfl] at h1
  have iw := hx.2.1
  go_enter Try.func51, Try.ntmps51
  go_wp2_with fail
  have n0 := BW.get hlt c0
  have n1 := BW.get hlt c1
  have n2 := BW.get hlt c2
  have n3 := BW.get hlt c3
  (refine wp_quiet_below (by kernel_rfl) (by kernel_rfl) ?_; (repeat (go_big_quiet_step ((first | (go_at_call 47; (first | with_reducible exact quiet_same (within_is h1 _) | with_reducible exact quiet_same (within_is h2 _) | with_reducible exact quiet_same (within_is h3 _) | with_reducible exact quiet_same (within_is h4 _))) | (go_at_call 78; exact quiet_below (acts_any _)))))); refine wpQuiet_nil ?_; rintro _ ⟨z, rfl⟩)
  clear n0 n1 n2 n3 hlt c0 c1 c2 c3 h1 h2 h3 h4
  have hl := (hM0.bel z.below).look_ok Try.underlying3 Try.underlying72 (Try.zeroValue70 _) iw
  rw [hl0, hl1] at hl
  have K1 := K.trans (z.below.mono (by simp))
  have M1 := hide (hM0.bel z.below)
  have B1 := B.bel z.below
  generalize z.world = W1 at *
  have d1 := B1.cell (v := .int .i64 who) 1 rfl
  have d2 := B1.cell (v := .int .i64 k) 2 rfl
  have d3 := B1.cell (v := .int .i64 g) 3 rfl
  have yl := B1.lt
  clear K hM0 B z hM hx hl0 hl1
  go_wp2_with fail
  have d2' : (W1.alloc (.cells #[.bool O, .int .i64 L] 70)).cell? ⟨w.heap.size, 2, none⟩ = some (.int .i64 k) := by simp [go_sem, d2, yl]
  have ne1 : ¬ W1.heap.size + 1 = w.heap.size := by omega
  have ne2 : ¬ w.heap.size = W1.heap.size + 1 := by omega
  refine wp_cut (fun a a' w' => ∃ p, a' = ((((a.put (some 41) actsV).put (some 42) (.pointer (some ⟨w.heap.size, 2, none⟩))).put (some 43) (.int .i64 k)).put (some 44) (.agg #[.bool J, .bool OFF, .bool ON, .bool NM, .func (.func F) #[] #[]])).put (some 7) (.pointer (some ⟨p, 0, none⟩)) ∧ Blk w' p 113 #[.bool J, .bool OFF, .bool ON, .bool NM, .func (.func F) #[] #[]] ∧ W1.heap.size < p ∧ Below (W1.alloc (.cells #[.bool O, .int .i64 L] 70)).heap.size (W1.alloc (.cells #[.bool O, .int .i64 L] 70)) w') ?_ ?_
  · go_region_held3 (fun w' => w'.cell? ⟨w.heap.size, 2, none⟩ = some (.int .i64 k)) (first | with_reducible exact d2' | with_reducible exact f1 | go_keep) (first | (go_at_call 78; refine (acts_any _).mono ?_; rintro e w2 ⟨rfl, hb2⟩; have f1 : w2.cell? ⟨w.heap.size, 2, none⟩ = some (.int .i64 k) := (hb2.cell (p := ⟨w.heap.size, 2, none⟩) (by first | omega | (simp; omega))).trans (by assumption); first | (have xB : Blk w2 (W1.heap.size + 1) 113 #[.bool false, .bool false, .bool false, .bool false, .nilFunc] := (Blk.new' (W := W1.alloc (.cells #[.bool O, .int .i64 L] 70)) (g := W1.heap.size + 1) (by simp)).drew.bel hb2; have x0 := xB.cell 0 rfl; have x1 := xB.cell 1 rfl; have x2 := xB.cell 2 rfl; have x3 := xB.cell 3 rfl; have x4 := xB.cell 4 rfl; have y0 := xB.thaw 0; have y1 := xB.thaw 1; have y2 := xB.thaw 2; have y3 := xB.thaw 3; have y4 := xB.thaw 4) | skip))
    all_goals
      first
      | exact ⟨_, by kernel_rfl, Blk.new _ _ _, (by have := hb2.size; simp at this; omega), kalloc (kcall (Below.refl _ _).drew hb2) _⟩
      | exact ⟨_, by kernel_rfl, ((((xB.set 0 _ rfl).set 1 _ rfl).set 2 _ rfl).set 3 _ rfl).set 4 _ rfl, (by omega), (((((kcall (kalloc (Below.refl _ _) _).drew hb2).setCell (by first | omega | (simp; done) | (simp; omega)) _).setCell (by first | omega | (simp; done) | (simp; omega)) _).setCell (by first | omega | (simp; done) | (simp; omega)) _).setCell (by first | omega | (simp; done) | (simp; omega)) _).setCell (by first | omega | (simp; done) | (simp; omega)) _⟩
  · rintro a' w2 ⟨p, rfl, PB, hp, hb2⟩
    have A1 := Blk.new W1 #[.bool O, .int .i64 L] 70
    have b2 := (B1.alloc (.cells #[.bool O, .int .i64 L] 70)).bel hb2
    have a2 := A1.bel hb2
    have K2 := kcall (kalloc K1 _) hb2
    have M2 := hide ((M1.out.alloc _).bel hb2)
    have d1 := b2.cell (v := .int .i64 who) 1 rfl
    have d3 := b2.cell (v := .int .i64 g) 3 rfl
    have e0 := a2.cell (v := .bool O) 0 rfl
    have e1 := a2.cell (v := .int .i64 L) 1 rfl
    have p0 := PB.cell (v := .bool J) 0 rfl
    have p1 := PB.cell (v := .bool OFF) 1 rfl
    have p2 := PB.cell (v := .bool ON) 2 rfl
    have p3 := PB.cell (v := .bool NM) 3 rfl
    have p4 := PB.cell (v := .func (.func F) #[] #[]) 4 rfl
    have nb1 : some w.heap.size ≠ some b := fun h => map_notcells M2.out b2 (Option.some.inj h)
    have nb2 : some W1.heap.size ≠ some b := fun h => map_notcells M2.out a2 (Option.some.inj h)
    have nb3 : some p ≠ some b := fun h => map_notcells M2.out PB (Option.some.inj h)
    clear hl hidx B1 d2 d2' ne1 ne2 A1 M1 K1 hb2
    rename_i K9 h9
    refine h9 _ _ ?_
    clear h9
    by_cases hj : Jd = J
    · subst hj
      have g0 : (Jd != Jd) = false := by simp
      have hR : R = ((if O = true then ON else OFF) && (decide (g = 0) || NM)) := by rw [HOK.out]; simp
      clear HOK
      cases O
      · cases OFF
        · obtain rfl : R = false := by rw [hR]; simp
          clear hR
          go_wp2
          go_ret
          exact ⟨rfl, by simpa using M2.out.mono (Nat.le_succ n), gb_below K2 _⟩
        · by_cases hg : g = 0
          · have hg' : (g != 0) = false := by simp [hg]
            obtain rfl : R = true := by rw [hR]; simp [hg]
            clear hR hg
            go_wp2_with fail
            (go_region_held3 (fun w' => (w'.cell? ⟨w.heap.size, 1, none⟩ = some (.int .i64 who) ∧ w'.cell? ⟨w.heap.size, 3, none⟩ = some (.int .i64 g)) ∧ (w'.cell? ⟨W1.heap.size, 0, none⟩ = some (.bool false) ∧ w'.cell? ⟨W1.heap.size, 1, none⟩ = some (.int .i64 L)) ∧ w'.cell? ⟨p, 4, none⟩ = some (.func (.func F) #[] #[])) (first | with_reducible exact ⟨⟨d1, d3⟩, ⟨e0, e1⟩, p4⟩ | with_reducible exact ⟨⟨q1, q3⟩, ⟨u0, u1⟩, q4⟩ | with_reducible exact ⟨⟨s1, s3⟩, ⟨t0, t1⟩, s4⟩ | go_keep) (first | (refine (KF.out _).mono ?_; rintro e w3 ⟨rfl, hb3⟩; have q1 := (hb3.cell (p := ⟨w.heap.size, 1, none⟩) b2.lt).trans d1; have q3 := (hb3.cell (p := ⟨w.heap.size, 3, none⟩) b2.lt).trans d3; have u0 := (hb3.cell (p := ⟨W1.heap.size, 0, none⟩) a2.lt).trans e0; have u1 := (hb3.cell (p := ⟨W1.heap.size, 1, none⟩) a2.lt).trans e1; have q4 := (hb3.cell (p := ⟨p, 4, none⟩) PB.lt).trans p4; obtain ⟨w4, e4, M4, g4⟩ := (M2.out.drew.bel hb3).put Try.underlying3 Try.underlying72 hn iw v; have z3 := hb3.size; have s1 := gcell g4 (Nat.lt_of_lt_of_le b2.lt z3) nb1 q1; have s3 := gcell g4 (Nat.lt_of_lt_of_le b2.lt z3) nb1 q3; have t0 := gcell g4 (Nat.lt_of_lt_of_le a2.lt z3) nb2 u0; have t1 := gcell g4 (Nat.lt_of_lt_of_le a2.lt z3) nb2 u1; have s4 := gcell g4 (Nat.lt_of_lt_of_le PB.lt z3) nb3 q4)))
            clear q1 q3 u0 u1 q4 s1 s3 t0 t1 s4 e4
            go_wp2
            go_ret
            exact ⟨rfl, by simpa using M4, gb_trans (gb_below (kcall K2.drew hb3) _) g4⟩
          · have hg' : (g != 0) = true := by simp [hg]
            cases NM
            · obtain rfl : R = false := by rw [hR]; simp [hg]
              clear hR
              go_wp2
              go_ret
              exact ⟨rfl, by simpa using M2.out.mono (Nat.le_succ n), gb_below K2 _⟩
            · obtain rfl : R = true := by rw [hR]; simp
              clear hR
              go_wp2_with fail
              (go_region_held3 (fun w' => (w'.cell? ⟨w.heap.size, 1, none⟩ = some (.int .i64 who) ∧ w'.cell? ⟨w.heap.size, 3, none⟩ = some (.int .i64 g)) ∧ (w'.cell? ⟨W1.heap.size, 0, none⟩ = some (.bool false) ∧ w'.cell? ⟨W1.heap.size, 1, none⟩ = some (.int .i64 L)) ∧ w'.cell? ⟨p, 4, none⟩ = some (.func (.func F) #[] #[])) (first | with_reducible exact ⟨⟨d1, d3⟩, ⟨e0, e1⟩, p4⟩ | with_reducible exact ⟨⟨q1, q3⟩, ⟨u0, u1⟩, q4⟩ | with_reducible exact ⟨⟨s1, s3⟩, ⟨t0, t1⟩, s4⟩ | go_keep) (first | (refine (KF.out _).mono ?_; rintro e w3 ⟨rfl, hb3⟩; have q1 := (hb3.cell (p := ⟨w.heap.size, 1, none⟩) b2.lt).trans d1; have q3 := (hb3.cell (p := ⟨w.heap.size, 3, none⟩) b2.lt).trans d3; have u0 := (hb3.cell (p := ⟨W1.heap.size, 0, none⟩) a2.lt).trans e0; have u1 := (hb3.cell (p := ⟨W1.heap.size, 1, none⟩) a2.lt).trans e1; have q4 := (hb3.cell (p := ⟨p, 4, none⟩) PB.lt).trans p4; obtain ⟨w4, e4, M4, g4⟩ := (M2.out.drew.bel hb3).put Try.underlying3 Try.underlying72 hn iw v; have z3 := hb3.size; have s1 := gcell g4 (Nat.lt_of_lt_of_le b2.lt z3) nb1 q1; have s3 := gcell g4 (Nat.lt_of_lt_of_le b2.lt z3) nb1 q3; have t0 := gcell g4 (Nat.lt_of_lt_of_le a2.lt z3) nb2 u0; have t1 := gcell g4 (Nat.lt_of_lt_of_le a2.lt z3) nb2 u1; have s4 := gcell g4 (Nat.lt_of_lt_of_le PB.lt z3) nb3 q4)))
              clear q1 q3 u0 u1 q4 s1 s3 t0 t1 s4 e4
              go_wp2
              go_ret
              exact ⟨rfl, by simpa using M4, gb_trans (gb_below (kcall K2.drew hb3) _) g4⟩
      · cases ON
        · obtain rfl : R = false := by rw [hR]; simp
          clear hR
          go_wp2
          go_ret
          exact ⟨rfl, by simpa using M2.out.mono (Nat.le_succ n), gb_below K2 _⟩
        · by_cases hg : g = 0
          · have hg' : (g != 0) = false := by simp [hg]
            obtain rfl : R = true := by rw [hR]; simp [hg]
            clear hR hg
            go_wp2_with fail
            (go_region_held3 (fun w' => (w'.cell? ⟨w.heap.size, 1, none⟩ = some (.int .i64 who) ∧ w'.cell? ⟨w.heap.size, 3, none⟩ = some (.int .i64 g)) ∧ (w'.cell? ⟨W1.heap.size, 0, none⟩ = some (.bool true) ∧ w'.cell? ⟨W1.heap.size, 1, none⟩ = some (.int .i64 L)) ∧ w'.cell? ⟨p, 4, none⟩ = some (.func (.func F) #[] #[])) (first | with_reducible exact ⟨⟨d1, d3⟩, ⟨e0, e1⟩, p4⟩ | with_reducible exact ⟨⟨q1, q3⟩, ⟨u0, u1⟩, q4⟩ | with_reducible exact ⟨⟨s1, s3⟩, ⟨t0, t1⟩, s4⟩ | go_keep) (first | (refine (KF.out _).mono ?_; rintro e w3 ⟨rfl, hb3⟩; have q1 := (hb3.cell (p := ⟨w.heap.size, 1, none⟩) b2.lt).trans d1; have q3 := (hb3.cell (p := ⟨w.heap.size, 3, none⟩) b2.lt).trans d3; have u0 := (hb3.cell (p := ⟨W1.heap.size, 0, none⟩) a2.lt).trans e0; have u1 := (hb3.cell (p := ⟨W1.heap.size, 1, none⟩) a2.lt).trans e1; have q4 := (hb3.cell (p := ⟨p, 4, none⟩) PB.lt).trans p4; obtain ⟨w4, e4, M4, g4⟩ := (M2.out.drew.bel hb3).put Try.underlying3 Try.underlying72 hn iw v; have z3 := hb3.size; have s1 := gcell g4 (Nat.lt_of_lt_of_le b2.lt z3) nb1 q1; have s3 := gcell g4 (Nat.lt_of_lt_of_le b2.lt z3) nb1 q3; have t0 := gcell g4 (Nat.lt_of_lt_of_le a2.lt z3) nb2 u0; have t1 := gcell g4 (Nat.lt_of_lt_of_le a2.lt z3) nb2 u1; have s4 := gcell g4 (Nat.lt_of_lt_of_le PB.lt z3) nb3 q4)))
            clear q1 q3 u0 u1 q4 s1 s3 t0 t1 s4 e4
            go_wp2
            go_ret
            exact ⟨rfl, by simpa using M4, gb_trans (gb_below (kcall K2.drew hb3) _) g4⟩
          · have hg' : (g != 0) = true := by simp [hg]
            cases NM
            · obtain rfl : R = false := by rw [hR]; simp [hg]
              clear hR
              go_wp2
              go_ret
              exact ⟨rfl, by simpa using M2.out.mono (Nat.le_succ n), gb_below K2 _⟩
            · obtain rfl : R = true := by rw [hR]; simp
              clear hR
              go_wp2_with fail
              (go_region_held3 (fun w' => (w'.cell? ⟨w.heap.size, 1, none⟩ = some (.int .i64 who) ∧ w'.cell? ⟨w.heap.size, 3, none⟩ = some (.int .i64 g)) ∧ (w'.cell? ⟨W1.heap.size, 0, none⟩ = some (.bool true) ∧ w'.cell? ⟨W1.heap.size, 1, none⟩ = some (.int .i64 L)) ∧ w'.cell? ⟨p, 4, none⟩ = some (.func (.func F) #[] #[])) (first | with_reducible exact ⟨⟨d1, d3⟩, ⟨e0, e1⟩, p4⟩ | with_reducible exact ⟨⟨q1, q3⟩, ⟨u0, u1⟩, q4⟩ | with_reducible exact ⟨⟨s1, s3⟩, ⟨t0, t1⟩, s4⟩ | go_keep) (first | (refine (KF.out _).mono ?_; rintro e w3 ⟨rfl, hb3⟩; have q1 := (hb3.cell (p := ⟨w.heap.size, 1, none⟩) b2.lt).trans d1; have q3 := (hb3.cell (p := ⟨w.heap.size, 3, none⟩) b2.lt).trans d3; have u0 := (hb3.cell (p := ⟨W1.heap.size, 0, none⟩) a2.lt).trans e0; have u1 := (hb3.cell (p := ⟨W1.heap.size, 1, none⟩) a2.lt).trans e1; have q4 := (hb3.cell (p := ⟨p, 4, none⟩) PB.lt).trans p4; obtain ⟨w4, e4, M4, g4⟩ := (M2.out.drew.bel hb3).put Try.underlying3 Try.underlying72 hn iw v; have z3 := hb3.size; have s1 := gcell g4 (Nat.lt_of_lt_of_le b2.lt z3) nb1 q1; have s3 := gcell g4 (Nat.lt_of_lt_of_le b2.lt z3) nb1 q3; have t0 := gcell g4 (Nat.lt_of_lt_of_le a2.lt z3) nb2 u0; have t1 := gcell g4 (Nat.lt_of_lt_of_le a2.lt z3) nb2 u1; have s4 := gcell g4 (Nat.lt_of_lt_of_le PB.lt z3) nb3 q4)))
              clear q1 q3 u0 u1 q4 s1 s3 t0 t1 s4 e4
              go_wp2
              go_ret
              exact ⟨rfl, by simpa using M4, gb_trans (gb_below (kcall K2.drew hb3) _) g4⟩
    · have hr : R = false := by rw [HOK.out]; simp [hj]
      have hj' : (Jd != J) = true := by simp [hj]
      subst hr
      go_wp2
      go_ret
      exact ⟨rfl, by simpa using M2.out.mono (Nat.le_succ n), gb_below K2 _⟩
end Go.Proofs.Ytchdoamoeccjkaa
namespace Go.Proofs.Ytchdoamoeccjkaa
open Go.RowKit Go.Mine Go.Mine.V

theorem idx1 (w : World) : (Instr.index 114 actsV (.int .i64 1)).run Try.prog w = .ok (.agg #[.bool false, .bool true, .bool false, .bool true, .func (.func 90) #[] #[]]) w := by kernel_rfl
theorem idx2 (w : World) : (Instr.index 114 actsV (.int .i64 2)).run Try.prog w = .ok (.agg #[.bool true, .bool true, .bool true, .bool true, .func (.func 91) #[] #[]]) w := by kernel_rfl
theorem idx3 (w : World) : (Instr.index 114 actsV (.int .i64 3)).run Try.prog w = .ok (.agg #[.bool true, .bool false, .bool true, .bool false, .func (.func 92) #[] #[]]) w := by kernel_rfl
theorem idx4 (w : World) : (Instr.index 114 actsV (.int .i64 4)).run Try.prog w = .ok (.agg #[.bool true, .bool true, .bool false, .bool false, .func (.func 93) #[] #[]]) w := by kernel_rfl
theorem okV_formed {a : Aud} {x : Vi} (hf : formed x = true) : okV a x = may (a x.who) x.k x.g := by unfold okV; rw [hf, Bool.true_and]
theorem okV_unformed {a : Aud} {x : Vi} (hf : formed x = false) : okV a x = false := by unfold okV; rw [hf, Bool.false_and]
theorem audM_none {a : Aud} {w : Int} (h : a w = none) : (audM a w).getD (.agg #[.bool false, .int .i64 0]) = .agg #[.bool false, .int .i64 0] ∧ (audM a w).isSome = false := by
  unfold audM; rw [h]; exact ⟨rfl, rfl⟩
theorem audM_some {a : Aud} {w : Int} {o : Bool} {L : Int} (h : a w = some (o, L)) : (audM a w).getD (.agg #[.bool false, .int .i64 0]) = .agg #[.bool o, .int .i64 L] ∧ (audM a w).isSome = true := by
  unfold audM; rw [h]; exact ⟨rfl, rfl⟩
theorem perform_any (x : Vi) (a : Aud) (b n : Nat) (w : World) (hx : ViS x) (hM : MapI Try.prog 3 w b n (audM a)) (hn : n < maxLen) :
    Calls Try.prog 51 #[.map (some b), viV x] w fun e w' => e = .returned (.bool (okV a x)) ∧ MapI Try.prog 3 w' b (n + 1) (audM (perf a x)) ∧ w.grownBy w' (some b) := by
  rcases Bool.eq_false_or_eq_true (formed x) with hf | hf
  · have ho := okV_formed (a := a) hf
    have hp : perf a x = if okV a x = true then put a x.who (done (a x.who) x.k x.g) else a := rfl
    have hk := formed_k hf
    obtain ⟨t, who, k, g⟩ := x
    dsimp only at ho hp hk
    have fin : ∀ (R : Bool) (v : Value) (s : Bool × Int), R = may (a who) k g → (R = true → done (a who) k g = some s ∧ v = stV s) →
        (Calls Try.prog 51 #[.map (some b), viV ⟨t, who, k, g⟩] w fun e w' => e = .returned (.bool R) ∧ MapI Try.prog 3 w' b (n + 1) (if R = true then upd (audM a) who v else audM a) ∧ w.grownBy w' (some b)) →
        Calls Try.prog 51 #[.map (some b), viV ⟨t, who, k, g⟩] w fun e w' => e = .returned (.bool (okV a ⟨t, who, k, g⟩)) ∧ MapI Try.prog 3 w' b (n + 1) (audM (perf a ⟨t, who, k, g⟩)) ∧ w.grownBy w' (some b) := by
      intro R v s h1 h2 h
      refine h.mono ?_
      rintro e w' ⟨rfl, q1, q2⟩
      rw [ho, ← h1]
      refine ⟨rfl, ?_, q2⟩
      rw [hp, ho, ← h1]
      cases R with
      | false => simpa using q1
      | true =>
        obtain ⟨p1, p2⟩ := h2 rfl
        rw [p1, if_pos rfl, ← audM_put, ← p2]
        simpa using q1
    rcases hk with rfl | rfl | rfl | rfl
    · rcases ha : a who with _ | ⟨o, L⟩
      · obtain ⟨g1, g2⟩ := audM_none ha
        exact fin (okB false true false true false false g) (vwV true g) (true, g) (by rw [ha]; cases hg : decide (g = 0) <;> simp [okB, may, hg]) (by intro _; rw [ha]; exact ⟨rfl, rfl⟩) (perform_gen t who 1 g _ b n w hx hf hM hn false true false true 90 idx1 (fun _ _ => by go_simp) false false 0 g1 g2 (vwV true g) (fun w => join_any false 0 g w))
      · obtain ⟨g1, g2⟩ := audM_some ha
        exact fin (okB false true false true true o g) (vwV true g) (true, g) (by rw [ha]; cases hg : decide (g = 0) <;> simp [okB, may, hg]) (by intro h; simp [okB] at h) (perform_gen t who 1 g _ b n w hx hf hM hn false true false true 90 idx1 (fun _ _ => by go_simp) true o L g1 g2 (vwV true g) (fun w => join_any o L g w))
    · rcases ha : a who with _ | ⟨o, L⟩
      · obtain ⟨g1, g2⟩ := audM_none ha
        exact fin (okB true true true true false false g) (vwV false g) (true, g) (by rw [ha]; cases hg : decide (g = 0) <;> simp [okB, may, hg]) (by intro h; simp [okB] at h) (perform_gen t who 2 g _ b n w hx hf hM hn true true true true 91 idx2 (fun _ _ => by go_simp) false false 0 g1 g2 (vwV false g) (fun w => lang_any false 0 g w))
      · obtain ⟨g1, g2⟩ := audM_some ha
        exact fin (okB true true true true true o g) (vwV o g) (o, g) (by rw [ha]; cases hg : decide (g = 0) <;> simp [okB, may, hg]) (by intro _; rw [ha]; exact ⟨rfl, rfl⟩) (perform_gen t who 2 g _ b n w hx hf hM hn true true true true 91 idx2 (fun _ _ => by go_simp) true o L g1 g2 (vwV o g) (fun w => lang_any o L g w))
    · rcases ha : a who with _ | ⟨o, L⟩
      · obtain ⟨g1, g2⟩ := audM_none ha
        exact fin (okB true false true false false false g) (vwV false 0) (true, g) (by rw [ha]; cases hg : decide (g = 0) <;> simp [okB, may, hg]) (by intro h; simp [okB] at h) (perform_gen t who 3 g _ b n w hx hf hM hn true false true false 92 idx3 (fun _ _ => by go_simp) false false 0 g1 g2 (vwV false 0) (fun w => leave_any false 0 g w))
      · obtain ⟨g1, g2⟩ := audM_some ha
        exact fin (okB true false true false true o g) (vwV false L) (false, L) (by rw [ha]; cases o <;> simp [okB, may]) (by intro _; rw [ha]; exact ⟨rfl, rfl⟩) (perform_gen t who 3 g _ b n w hx hf hM hn true false true false 92 idx3 (fun _ _ => by go_simp) true o L g1 g2 (vwV false L) (fun w => leave_any o L g w))
    · rcases ha : a who with _ | ⟨o, L⟩
      · obtain ⟨g1, g2⟩ := audM_none ha
        exact fin (okB true true false false false false g) (vwV true 0) (true, g) (by rw [ha]; cases hg : decide (g = 0) <;> simp [okB, may, hg]) (by intro h; simp [okB] at h) (perform_gen t who 4 g _ b n w hx hf hM hn true true false false 93 idx4 (fun _ _ => by go_simp) false false 0 g1 g2 (vwV true 0) (fun w => back_any false 0 g w))
      · obtain ⟨g1, g2⟩ := audM_some ha
        exact fin (okB true true false false true o g) (vwV true L) (true, L) (by rw [ha]; cases o <;> simp [okB, may]) (by intro _; rw [ha]; exact ⟨rfl, rfl⟩) (perform_gen t who 4 g _ b n w hx hf hM hn true true false false 93 idx4 (fun _ _ => by go_simp) true o L g1 g2 (vwV true L) (fun w => back_any o L g w))
  · have ho := okV_unformed (a := a) hf
    refine (perform_unformed x b w hx hf).mono ?_
    rintro e w' ⟨rfl, hb⟩
    rw [ho, show perf a x = a by unfold perf; rw [ho]; rfl]
    exact ⟨rfl, (hM.bel hb).mono (Nat.le_succ n), gb_below hb _⟩
end Go.Proofs.Ytchdoamoeccjkaa
