/-
  spans.check: the error with which it ends, or none.
-/
import Derived.Test.YtbfgbkblblnbhaaSBord
namespace Go.Proofs.Ytbfgbkblblnbhaa
open Go.RowKit Go.Mine Go.Mine.H Go.Mine.S

/-- lists of spans that lie in a slice of slices -/
structure SlSl (w : World) (b n : Nat) (ls : List (List Sp)) : Prop where
  blk : ∃ cs, Blk w b 30 cs ∧ cs.size = ls.length ∧ ∀ (k : Nat) (l : List Sp), ls[k]? = some l → ∃ A c, cs[k]? = some (.slice A l.length c) ∧ Sl bc 2 w A c l
  len : n = ls.length
def chkAll : List (List Sp) → Int
  | [] => 0
  | l :: r => if chkS l = 0 then chkAll r else chkS l
def endC (e : Int) : Ending := if e = 0 then .returned (.tuple #[]) else .panicked [{ v := .iface 25 (.int .i64 e), recovered := false }]
theorem SlSl.bel {w w' : World} {b n : Nat} {ls : List (List Sp)} (h : SlSl w b n ls) (k : Below w.heap.size w w') : SlSl w' b n ls := by
  obtain ⟨⟨cs, h1, h2, h3⟩, h4⟩ := h
  exact ⟨⟨cs, h1.bel k, h2, fun j l hj => by obtain ⟨A, c, e, hs⟩ := h3 j l hj; exact ⟨A, c, e, hs.bel k⟩⟩, h4⟩
theorem sl_at {w : World} {A : Option Addr} {c : Nat} {l : List Sp} (hS : Sl bc 2 w A c l) {k : Nat} (hk : k < l.length) :
    ∃ x b off, l[k]? = some x ∧ l.drop k = x :: l.drop (k + 1) ∧ A = some ⟨b, off, none⟩ ∧ b < w.heap.size ∧ w.cell? ⟨b, off + k * 2, none⟩ = some (.int .i64 x.1) ∧ w.cell? ⟨b, off + k * 2 + 1, none⟩ = some (.int .i64 x.2) := by
  obtain ⟨x, b, off, hx, hd, e, hb, hc⟩ := hS.at_ hk
  exact ⟨x, b, off, hx, hd, e, hb, hc 0 _ rfl, hc 1 _ rfl⟩

set_option maxHeartbeats 4000000 in
theorem scheck_any (b n : Nat) (ls : List (List Sp)) (w : World) (hL : SlSl w b n ls) (hn : ls.length ≤ 16) :
    Calls Try.prog 60 #[.slice (some ⟨b, 0, none⟩) n n] w fun e w' => e = endC (chkAll ls) ∧ Below w.heap.size w w' := by
  obtain ⟨⟨cs, hb, hsz, hcs⟩, rfl⟩ := hL
  have HC := hide hcs
  have HB := hide hb
  clear hcs hb
  go_enter Try.func60, Try.ntmps60
  go_wp2
  go_loopw [9] (fun i wr => ∃ k : Nat, k ≤ ls.length ∧ i = .int .i64 k ∧ Below w.heap.size w wr ∧ chkAll ls = chkAll (ls.drop k)) (fun i _ => ls.length - (intOf i).toNat)
  case atStart => exact ⟨0, by omega, rfl, Below.refl _ _, rfl⟩
  case round =>
    obtain ⟨k, hk, rfl, hbr, hq⟩ := hrel
    by_cases hlt : k < ls.length
    · have hlk : ls[k]? = some (ls[k]'hlt) := List.getElem?_eq_getElem hlt
      generalize hl : ls[k]'hlt = l at hlk
      have hdr : ls.drop k = l :: ls.drop (k + 1) := by rw [← hl]; exact List.drop_eq_getElem_cons hlt
      obtain ⟨A, c, hck, hS0⟩ := HC.out k l hlk
      have hS := hS0.bel hbr
      have hcell := (HB.out.bel hbr).cell k hck
      have hbl := (HB.out.bel hbr).lt
      rw [hdr, show chkAll (l :: ls.drop (k + 1)) = if chkS l = 0 then chkAll (ls.drop (k + 1)) else chkS l from rfl] at hq
      have hlc := hS.le
      have hcm := hS.max
      clear hdr hlk hl hck hS0
      by_cases h4 : 4096 < l.length
      · have hne : chkS l = 2 := by unfold chkS; rw [if_pos h4]
        rw [hne, if_neg (by decide)] at hq
        have E := hide hq
        have g4 : decide ((4096 : Int) < l.length) = true := by simp; omega
        clear hq hS hne
        go_wp2
        exact ⟨rfl, by rw [E.out]; rfl, hbr⟩
      · have hgo : chkS l = chkSGo (-1) l := by unfold chkS; rw [if_neg h4]
        rw [hgo] at hq
        have HQ := hide hq
        have HS := hide hS
        have g4 : decide ((4096 : Int) < l.length) = false := by simp; omega
        clear hq hS hgo
        go_wp2
        go_loopw [4, 19] (fun v i wi => ∃ (m : Nat) (la : Int), m ≤ l.length ∧ i = .int .i64 m ∧ v = .int .i64 la ∧ -1 ≤ la ∧ la ≤ 1099511627776 ∧ Below w.heap.size w wi ∧ Below wr.heap.size wr wi ∧ chkSGo (-1) l = chkSGo la (l.drop m)) (fun _ i _ => l.length - (intOf i).toNat)
        case atStart => exact ⟨0, -1, by omega, rfl, rfl, by omega, by omega, hbr, Below.refl _ _, rfl⟩
        case round =>
          obtain ⟨m, la, hm, rfl, rfl, la1, la2, hbi, hbj, hgo⟩ := hrel
          by_cases hlm : m < l.length
          · obtain ⟨x, bb, off, hx, hdx, rfl, hbw, f1, f2⟩ := sl_at (HS.out.bel hbj) hlm
            rw [hdx, show chkSGo la (x :: l.drop (m + 1)) = if la < x.1 ∧ x.1 < x.2 ∧ x.2 ≤ 1099511627776 then chkSGo x.2 (l.drop (m + 1)) else 130 from rfl] at hgo
            clear hx hdx hcell
            have hN := hbi.size
            have hN2 := hbj.size
            have HQ' := HQ.out
            clear HQ HB HC
            by_cases c0 : la < x.1 ∧ x.1 < x.2 ∧ x.2 ≤ 1099511627776
            · rw [if_pos c0] at hgo
              obtain ⟨d1, d2, d3⟩ := c0
              have d4 : ¬ x.1 ≤ la := by omega
              have d5 : ¬ x.1 < 0 := by omega
              have d6 : ¬ x.2 ≤ x.1 := by omega
              have d7 : ¬ 1099511627776 < x.2 := by omega
              have HG := hide hgo
              replace HQ' := hide HQ'
              clear hgo
              go_wp2
              go_roundw
              case rel => exact ⟨m + 1, x.2, by omega, by go_num, rfl, by omega, by omega, hbi.alloc hN _, hbj.alloc hN2 _, HG.out⟩
              case measure => simp [intOf]; omega
            · rw [if_neg c0] at hgo
              rw [hgo, if_neg (by decide)] at HQ'
              have E := hide HQ'
              have hw : x.1 ≤ la ∨ (¬ x.1 ≤ la ∧ ¬ x.1 < 0 ∧ x.2 ≤ x.1) ∨ (¬ x.1 ≤ la ∧ ¬ x.1 < 0 ∧ ¬ x.2 ≤ x.1 ∧ 1099511627776 < x.2) := by omega
              clear hgo HQ' c0
              rcases hw with d1 | ⟨d1, d2, d3⟩ | ⟨d1, d2, d3, d4⟩
              all_goals
                go_wp2
                exact ⟨rfl, by rw [E.out]; rfl, hbi.alloc hN _⟩
          · rw [List.drop_of_length_le (by omega), show chkSGo la [] = 0 from rfl] at hgo
            have HQ' := HQ.out
            rw [hgo, if_pos rfl] at HQ'
            have E := hide HQ'
            clear hgo HQ HQ'
            go_wp2
            go_roundw
            case rel => exact ⟨k + 1, by omega, by go_num, hbi, E.out⟩
            case measure => simp [intOf]; omega
    · rw [List.drop_of_length_le (by omega)] at hq
      have E := hide hq
      clear hq
      go_wp2
      go_end0
      exact ⟨by rw [E.out]; rfl, hbr⟩
end Go.Proofs.Ytbfgbkblblnbhaa
