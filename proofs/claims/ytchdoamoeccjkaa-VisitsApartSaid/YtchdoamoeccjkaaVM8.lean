/-
  spans.border.
  spans.check: the error with which it ends, or none.
  spans.caught: the deferred call that recovers an error.
  spans.Total.
-/
import Derived.Test.YtchdoamoeccjkaaVM4
import Derived.Test.YtchdoamoeccjkaaSPure4
import Derived.Test.YtchdoamoeccjkaaPush
import Derived.Test.YtchdoamoeccjkaaRShelf
import Derived.Recover
import Derived.RecoverIn
namespace Go.Proofs.Ytchdoamoeccjkaa
open Go.RowKit Go.Mine Go.Mine.S

theorem border_any (A : Option Addr) (c : Nat) (l : List Sp) (i : Nat) (w : World) (hS : Sl spc 2 w A c l) (hl : l.length ≤ 4096) (hi : i ≤ 8192) :
    Calls Try.prog 89 #[.slice A l.length c, .int .i64 i] w fun e w' => e = .returned (.int .i64 (bdL l i)) ∧ w' = w := by
  have hlc := hS.le
  have hc := hS.max
  by_cases h : 2 * l.length ≤ i
  · rw [bdL_end l i h]
    have g1 : decide (2 * (l.length : Int) ≤ i) = true := by simp; omega
    go_enter Try.func89, Try.ntmps89
    go_wp2
    go_ret
    exact ⟨rfl, rfl⟩
  · have g1 : decide (2 * (l.length : Int) ≤ i) = false := by simp; omega
    have hk : i / 2 < l.length := by omega
    obtain ⟨x, b, off, hx, -, rfl, hbw, hcx⟩ := hS.at_ hk
    have f1 := hcx 0 (.int .i64 x.1) rfl
    have f2 := hcx 1 (.int .i64 x.2) rfl
    simp only [Nat.add_zero] at f1
    rw [← Nat.add_assoc] at f2
    have hk' : (i : Int) / 2 < l.length := by omega
    have hk0 : 0 ≤ (i : Int) / 2 := by omega
    have hkn : ((i : Int) / 2).toNat = i / 2 := by omega
    rcases Nat.mod_two_eq_zero_or_one i with hm | hm
    · have e : bdL l i = x.1 := by have := bdL_even hx; rwa [show 2 * (i / 2) = i by omega] at this
      rw [e]
      have g2 : ((i : Int) % 2 == 0) = true := by simp; omega
      clear hcx hx e hS
      go_enter Try.func89, Try.ntmps89
      go_wp2
      go_ret
      exact ⟨rfl, rfl⟩
    · have e : bdL l i = x.2 := by have := bdL_odd hx; rwa [show 2 * (i / 2) + 1 = i by omega] at this
      rw [e]
      have g2 : ((i : Int) % 2 == 0) = false := by simp; omega
      clear hcx hx e hS
      go_enter Try.func89, Try.ntmps89
      go_wp2
      go_ret
      exact ⟨rfl, rfl⟩
end Go.Proofs.Ytchdoamoeccjkaa
namespace Go.Proofs.Ytchdoamoeccjkaa
open Go.RowKit Go.Mine Go.Mine.S

/-- lists of spans that lie in a slice of slices -/
structure SlSl (w : World) (b n : Nat) (ls : List (List Sp)) : Prop where
  blk : ∃ cs, Blk w b 30 cs ∧ cs.size = ls.length ∧ ∀ (k : Nat) (l : List Sp), ls[k]? = some l → ∃ A c, cs[k]? = some (.slice A l.length c) ∧ Sl spc 2 w A c l
  len : n = ls.length
def chkAll : List (List Sp) → Int
  | [] => 0
  | l :: r => if chkS l = 0 then chkAll r else chkS l
def endC (e : Int) : Ending := if e = 0 then .returned (.tuple #[]) else .panicked [{ v := .iface 25 (.int .i64 e), recovered := false }]
theorem SlSl.bel {w w' : World} {b n : Nat} {ls : List (List Sp)} (h : SlSl w b n ls) (k : Below w.heap.size w w') : SlSl w' b n ls := by
  obtain ⟨⟨cs, h1, h2, h3⟩, h4⟩ := h
  exact ⟨⟨cs, h1.bel k, h2, fun j l hj => by obtain ⟨A, c, e, hs⟩ := h3 j l hj; exact ⟨A, c, e, hs.bel k⟩⟩, h4⟩
theorem sl_at {w : World} {A : Option Addr} {c : Nat} {l : List Sp} (hS : Sl spc 2 w A c l) {k : Nat} (hk : k < l.length) :
    ∃ x b off, l[k]? = some x ∧ l.drop k = x :: l.drop (k + 1) ∧ A = some ⟨b, off, none⟩ ∧ b < w.heap.size ∧ w.cell? ⟨b, off + k * 2, none⟩ = some (.int .i64 x.1) ∧ w.cell? ⟨b, off + k * 2 + 1, none⟩ = some (.int .i64 x.2) := by
  obtain ⟨x, b, off, hx, hd, e, hb, hc⟩ := hS.at_ hk
  exact ⟨x, b, off, hx, hd, e, hb, hc 0 _ rfl, hc 1 _ rfl⟩

set_option maxHeartbeats 4000000 in
theorem scheck_any (b n : Nat) (ls : List (List Sp)) (w : World) (hL : SlSl w b n ls) (hn : ls.length ≤ 16) :
    Calls Try.prog 72 #[.slice (some ⟨b, 0, none⟩) n n] w fun e w' => e = endC (chkAll ls) ∧ Below w.heap.size w w' := by
  obtain ⟨⟨cs, hb, hsz, hcs⟩, rfl⟩ := hL
  have HC := hide hcs
  have HB := hide hb
  clear hcs hb
  go_enter Try.func72, Try.ntmps72
  go_wp2
  go_loopw [9] (fun i wr => ∃ k : Nat, k ≤ ls.length ∧ i = .int .i64 k ∧ Below w.heap.size w wr ∧ chkAll ls = chkAll (ls.drop k)) (fun i _ => ls.length - (nI i).toNat)
  case atStart => exact ⟨0, by omega, rfl, Below.refl _ _, rfl⟩
  case round =>
    obtain ⟨k, hk, rfl, hbr, hq⟩ := hrel
    by_cases hlt : k < ls.length
    · have hlk : ls[k]? = some (ls[k]'hlt) := List.getElem?_eq_getElem hlt
      generalize hl : ls[k]'hlt = l at hlk
      have hdr : ls.drop k = l :: ls.drop (k + 1) := by rw [← hl]; exact List.drop_eq_getElem_cons hlt
      obtain ⟨A, c, hck, hS0⟩ := HC.out k l hlk
      have hS := hS0.bel hbr
      have hcell := (HB.out.bel hbr).cell k hck
      have hbl := (HB.out.bel hbr).lt
      rw [hdr, show chkAll (l :: ls.drop (k + 1)) = if chkS l = 0 then chkAll (ls.drop (k + 1)) else chkS l from rfl] at hq
      have hlc := hS.le
      have hcm := hS.max
      clear hdr hlk hl hck hS0
      by_cases h4 : 4096 < l.length
      · have hne : chkS l = 2 := by unfold chkS; rw [if_pos h4]
        rw [hne, if_neg (by decide)] at hq
        have E := hide hq
        have g4 : decide ((4096 : Int) < l.length) = true := by simp; omega
        clear hq hS hne
        go_wp2
        exact ⟨rfl, by rw [E.out]; rfl, hbr⟩
      · have hgo : chkS l = chkSGo (-1) l := by unfold chkS; rw [if_neg h4]
        rw [hgo] at hq
        have HQ := hide hq
        have HS := hide hS
        have g4 : decide ((4096 : Int) < l.length) = false := by simp; omega
        clear hq hS hgo
        go_wp2
        go_loopw [4, 19] (fun v i wi => ∃ (m : Nat) (la : Int), m ≤ l.length ∧ i = .int .i64 m ∧ v = .int .i64 la ∧ -1 ≤ la ∧ la ≤ 1099511627776 ∧ Below w.heap.size w wi ∧ Below wr.heap.size wr wi ∧ chkSGo (-1) l = chkSGo la (l.drop m)) (fun _ i _ => l.length - (nI i).toNat)
        case atStart => exact ⟨0, -1, by omega, rfl, rfl, by omega, by omega, hbr, Below.refl _ _, rfl⟩
        case round =>
          obtain ⟨m, la, hm, rfl, rfl, la1, la2, hbi, hbj, hgo⟩ := hrel
          by_cases hlm : m < l.length
          · obtain ⟨x, bb, off, hx, hdx, rfl, hbw, f1, f2⟩ := sl_at (HS.out.bel hbj) hlm
            rw [hdx, show chkSGo la (x :: l.drop (m + 1)) = if la < x.1 ∧ x.1 < x.2 ∧ x.2 ≤ 1099511627776 then chkSGo x.2 (l.drop (m + 1)) else 130 from rfl] at hgo
            clear hx hdx hcell
            have hN := hbi.size
            have hN2 := hbj.size
            have HQ' := HQ.out
            clear HQ HB HC
            by_cases c0 : la < x.1 ∧ x.1 < x.2 ∧ x.2 ≤ 1099511627776
            · rw [if_pos c0] at hgo
              obtain ⟨d1, d2, d3⟩ := c0
              have d4 : ¬ x.1 ≤ la := by omega
              have d5 : ¬ x.1 < 0 := by omega
              have d6 : ¬ x.2 ≤ x.1 := by omega
              have d7 : ¬ 1099511627776 < x.2 := by omega
              have HG := hide hgo
              replace HQ' := hide HQ'
              clear hgo
              go_wp2
              go_roundw
              case rel => exact ⟨m + 1, x.2, by omega, by go_num, rfl, by omega, by omega, hbi.alloc hN _, hbj.alloc hN2 _, HG.out⟩
              case measure => simp [nI]; omega
            · rw [if_neg c0] at hgo
              rw [hgo, if_neg (by decide)] at HQ'
              have E := hide HQ'
              have hw : x.1 ≤ la ∨ (¬ x.1 ≤ la ∧ ¬ x.1 < 0 ∧ x.2 ≤ x.1) ∨ (¬ x.1 ≤ la ∧ ¬ x.1 < 0 ∧ ¬ x.2 ≤ x.1 ∧ 1099511627776 < x.2) := by omega
              clear hgo HQ' c0
              rcases hw with d1 | ⟨d1, d2, d3⟩ | ⟨d1, d2, d3, d4⟩
              all_goals
                go_wp2
                exact ⟨rfl, by rw [E.out]; rfl, hbi.alloc hN _⟩
          · rw [List.drop_of_length_le (by omega), show chkSGo la [] = 0 from rfl] at hgo
            have HQ' := HQ.out
            rw [hgo, if_pos rfl] at HQ'
            have E := hide HQ'
            clear hgo HQ HQ'
            go_wp2
            go_roundw
            case rel => exact ⟨k + 1, by omega, by go_num, hbi, E.out⟩
            case measure => simp [nI]; omega
    · rw [List.drop_of_length_le (by omega)] at hq
      have E := hide hq
      clear hq
      go_wp2
      go_end0
      exact ⟨by rw [E.out]; rfl, hbr⟩
end Go.Proofs.Ytchdoamoeccjkaa
namespace Go.Proofs.Ytchdoamoeccjkaa
open Go.RowKit Go.Mine Go.Mine.S

theorem wp_frame {P : Program} {c : Code} {Q : Exit → Act → World → Prop} {a a' : Act} {w : World} (h : a = a') (hw : c.wp P Q a' w) : c.wp P Q a w := by rw [h]; exact hw
theorem caught_panicking (p : Nat) (x er : Int) (older : List PanicEntry) (w : World) (hc : w.cell? ⟨p, 0, none⟩ = some (.int .i64 x)) (hz : w.frozen? ⟨p, 0, none⟩ = false) :
    CallsD Try.prog 71 #[.pointer (some ⟨p, 0, none⟩)] (.panicking ({ v := .iface 25 (.int .i64 er), recovered := false } :: older)) w fun e u' w' =>
      e = .returned (.tuple #[]) ∧ u' = .panicking ({ v := .iface 25 (.int .i64 er), recovered := true } :: older) ∧ w' = w.setCell ⟨p, 0, none⟩ (.int .i64 er) := by
  refine callsD_of_wpS Try.func71 rfl fun c₀ cs hu => ?_
  apply wpS_seq
  apply wpS_region
  simp [wpOpsS, go_sem, recoverD, hu, Try.ntmps71, Exit.thenS]
  have hneq : ∀ w : World, (binOp BinOp.neq 20 (.iface 25 (.int .i64 er)) .nilIface).run Try.prog w = .ok (.bool true) w := fun _ => by kernel_rfl
  apply wpS_seq
  apply wpS_region
  simp [wpOpsS, go_sem, hneq, Exit.thenS]
  refine wpS_cond (t := true) (by simp [Act.eval]) ?_
  simp only [if_true]
  refine wpS_of_wp ?_
  have hta : ∀ w : World, (Instr.typeAssert (.iface 25 (.int .i64 er)) 20 25 true).run Try.prog w = .ok (.tuple #[.int .i64 er, .bool true]) w := fun _ => by kernel_rfl
  refine wp_frame (a' := { tmps := #[.pointer (some ⟨p, 0, none⟩), undef, .iface 25 (.int .i64 er), undef, undef, .iface 25 (.int .i64 er), .iface 25 (.int .i64 er), .bool true, undef, undef, undef, undef, undef, undef, undef, undef, undef, undef, undef], defers := [] }) (by kernel_rfl) ?_
  replace hu := hide hu
  clear hneq
  generalize hQ : (fun (e : Exit) (a' : Act) (w' : World) => bodyPostS Try.prog Try.f71 c₀ cs _ e a' _ w') = Q
  go_wp2
  subst hQ
  exact ⟨rfl, _, rfl, .tuple #[], results_none rfl _ _ _, rfl, rfl, rfl⟩
theorem caught_idle (p : Nat) (w : World) :
    CallsD Try.prog 71 #[.pointer (some ⟨p, 0, none⟩)] .returning w fun e u' w' => e = .returned (.tuple #[]) ∧ u' = .returning ∧ w' = w := by
  refine callsD_of_wpS Try.func71 rfl fun c₀ cs hu => ?_
  apply wpS_seq
  apply wpS_region
  simp [wpOpsS, go_sem, recoverD, hu, Try.ntmps71, Exit.thenS]
  have hneq : ∀ w : World, (binOp BinOp.neq 20 .nilIface .nilIface).run Try.prog w = .ok (.bool false) w := fun _ => by kernel_rfl
  apply wpS_seq
  apply wpS_region
  simp [wpOpsS, go_sem, hneq, Exit.thenS]
  refine wpS_cond (t := false) (by simp [Act.eval]) ?_
  simp only [Bool.false_eq_true, if_false]
  refine wpS_of_wp (wp_skip ?_)
  exact ⟨rfl, .returning, by rw [← hu], .tuple #[], results_none rfl _ _ _, rfl, rfl, rfl⟩

theorem endC_ok {e : Int} (h : e = 0) : endC e = .returned (.tuple #[]) := by unfold endC; rw [if_pos h]
theorem endC_bad {e : Int} (h : e ≠ 0) : endC e = .panicked [{ v := .iface 25 (.int .i64 e), recovered := false }] := by unfold endC; rw [if_neg h]
theorem slsl_one {w : World} {A : Option Addr} {c : Nat} {l : List Sp} {b : Nat} (h : Blk w b 30 #[.slice A l.length c]) (hS : Sl spc 2 w A c l) : SlSl w b 1 [l] :=
  ⟨⟨_, h, rfl, fun k l' hk => by
    match k, hk with
    | 0, hk => simp at hk; subst hk; exact ⟨A, c, rfl, hS⟩⟩, rfl⟩
theorem slsl_two {w : World} {A A' : Option Addr} {c c' : Nat} {l l' : List Sp} {b : Nat} (h : Blk w b 30 #[.slice A l.length c, .slice A' l'.length c']) (hS : Sl spc 2 w A c l) (hS' : Sl spc 2 w A' c' l') : SlSl w b 2 [l, l'] :=
  ⟨⟨_, h, rfl, fun k x hk => by
    match k, hk with
    | 0, hk => simp at hk; subst hk; exact ⟨A, c, rfl, hS⟩
    | 1, hk => simp at hk; subst hk; exact ⟨A', c', rfl, hS'⟩⟩, rfl⟩
theorem chkAll_one (l : List Sp) : chkAll [l] = chkS l := by
  unfold chkAll; split
  · rename_i h; rw [h]; rfl
  · rfl

set_option maxHeartbeats 1000000 in
theorem sCheck_any (A : Option Addr) (c : Nat) (l : List Sp) (w : World) (hS : Sl spc 2 w A c l) :
    Calls Try.prog 41 #[.slice A l.length c] w fun e w' => e = .returned (.int .i64 (chkS l)) ∧ Below w.heap.size w w' := by
  have K := hide (fun b w (hL : SlSl w b 1 [l]) => scheck_any b 1 [l] w hL (by simp))
  rw [chkAll_one] at K
  by_cases hz : chkS l = 0
  · rw [endC_ok hz] at K
    rw [hz]
    clear hz
    go_enter_defers Try.func41, Try.ntmps41
    go_wp2_with fail
    refine (K.out _ _ (slsl_one (Blk.new1 w _ _ 30) ((hS.alloc _).alloc _))).mono ?_
    rintro e w2 ⟨rfl, hb⟩
    have hB := kcall (kalloc (kalloc (Below.refl w.heap.size w) _) _) hb
    have be := ((Blk.new w #[.int .i64 0] 25).alloc (Obj.cells #[.slice A l.length c] 30)).bel hb
    have y0 := be.cell (v := .int .i64 0) 0 rfl
    have z0 := be.thaw 0
    replace be := hide be
    clear hb
    go_wp2_with fail
    refine leaves_cons (f := 71) (args := #[.pointer (some ⟨w.heap.size, 0, none⟩)]) (by simp) (by simp [go_sem]) ?_
    refine (caught_idle _ _).mono ?_
    rintro e u' w'' ⟨rfl, rfl, rfl⟩
    exact ⟨_, by simp [results, Try.results41, go_sem, y0], rfl, hB.setCell (by dsimp only; omega) _⟩
  · rw [endC_bad hz] at K
    clear hz
    go_enter_defers Try.func41, Try.ntmps41
    go_wp2_with fail
    refine (K.out _ _ (slsl_one (Blk.new1 w _ _ 30) ((hS.alloc _).alloc _))).mono ?_
    rintro e w2 ⟨rfl, hb⟩
    have hB := kcall (kalloc (kalloc (Below.refl w.heap.size w) _) _) hb
    have be := ((Blk.new w #[.int .i64 0] 25).alloc (Obj.cells #[.slice A l.length c] 30)).bel hb
    have y0 := be.cell (v := .int .i64 0) 0 rfl
    have z0 := be.thaw 0
    replace be := hide be
    clear hb
    go_wp2_with fail
    refine leaves_cons (f := 71) (args := #[.pointer (some ⟨w.heap.size, 0, none⟩)]) (by simp) (by simp [go_sem]) ?_
    refine (caught_panicking _ 0 (chkS l) [] _ y0 z0).mono ?_
    rintro e u' w'' ⟨rfl, rfl, rfl⟩
    exact ⟨_, by simp [results, Try.results41, go_sem, y0], rfl, hB.setCell (by dsimp only; omega) _⟩
end Go.Proofs.Ytchdoamoeccjkaa
namespace Go.Proofs.Ytchdoamoeccjkaa
open Go.RowKit Go.Mine Go.Mine.S

def totR (l : List Sp) : Int := if chkS l = 0 then tot l else 0
theorem good_mem : ∀ (l : List Sp) (last : Int), good last l → -1 ≤ last → ∀ x ∈ l, 0 ≤ x.1 ∧ x.1 < x.2 ∧ x.2 ≤ 1099511627776
  | [], _, _, _, x, hx => by cases hx
  | y :: r, last, ⟨h1, h2, h3, h4⟩, hl, x, hx => by
    rcases List.mem_cons.1 hx with rfl | hx
    · omega
    · exact good_mem r y.2 h4 (by omega) x hx
theorem tot_take {l : List Sp} {k : Nat} {x : Sp} (h : l[k]? = some x) : tot (l.take (k + 1)) = tot (l.take k) + (x.2 - x.1) := by
  rw [take_of_get h, tot_append]; simp [tot]

end Go.Proofs.Ytchdoamoeccjkaa
