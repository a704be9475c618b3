/-
  Layer 13: right, and what the sets of two lists answer.
-/
import Derived.Test.YtbfgbkblblnbhaaS13Sane
namespace Go.Proofs.Ytbfgbkblblnbhaa
open Go.RowKit Go.Mine Go.Mine.H Go.Mine.S

def rgt (l : List Sp) : Bool := decide (l.length ≤ 30) && decide (chkS l = 0)
set_option maxHeartbeats 1000000 in
theorem right13_any (b n : Nat) (ls : List (List Sp)) (w : World) (hL : SlSl w b n ls) (hn : ls.length ≤ 16) :
    Calls Try.prog 44 #[.slice (some ⟨b, 0, none⟩) n n] w fun e w' => e = .returned (.bool (ls.all rgt)) ∧ Below w.heap.size w w' := by
  obtain ⟨⟨cs, hb, hsz, hcs⟩, rfl⟩ := hL
  have HC := hide hcs
  have HB := hide hb
  clear hcs hb
  go_enter Try.func44, Try.ntmps44
  go_wp2
  go_loopw [7] (fun i wr => ∃ k : Nat, k ≤ ls.length ∧ i = .int .i64 k ∧ Below w.heap.size w wr ∧ ls.all rgt = (ls.drop k).all rgt) (fun i _ => ls.length - (intOf i).toNat)
  case atStart => exact ⟨0, by omega, rfl, Below.refl _ _, rfl⟩
  case round =>
    obtain ⟨k, hk, rfl, hbr, hq⟩ := hrel
    by_cases hlt : k < ls.length
    · have hlk : ls[k]? = some (ls[k]'hlt) := List.getElem?_eq_getElem hlt
      generalize hl : ls[k]'hlt = l at hlk
      have hdr : ls.drop k = l :: ls.drop (k + 1) := by rw [← hl]; exact List.drop_eq_getElem_cons hlt
      obtain ⟨A, c, hck, hS0⟩ := HC.out k l hlk
      have hS := hS0.bel hbr
      have hcell := (HB.out.bel hbr).cell k hck
      have hbl := (HB.out.bel hbr).lt
      rw [hdr, List.all_cons] at hq
      have hlc := hS.le
      have hcm := hS.max
      clear hdr hlk hl hck hS0
      by_cases h4 : 30 < l.length
      · have E := hide (show ls.all rgt = false by rw [hq, show rgt l = false by unfold rgt; rw [decide_eq_false (by omega)]; rfl]; rfl)
        have g4 : decide ((30 : Int) < l.length) = true := by simp; omega
        clear hq hS
        go_wp2
        go_ret
        exact ⟨ret_bool E.out.symm, hbr⟩
      · have E := hide (show ls.all rgt = (decide (chkS l = 0) && (ls.drop (k + 1)).all rgt) by rw [hq, show rgt l = decide (chkS l = 0) by unfold rgt; rw [decide_eq_true (by omega)]; rfl])
        have K := hide (refCheckS_any A c l wr hS)
        have g4 : decide ((30 : Int) < l.length) = false := by simp; omega
        clear hq hS
        by_cases hz : chkS l = 0
        · rw [hz] at K E
          rw [decide_eq_true rfl, Bool.true_and] at E
          clear hz
          go_wp2_with fail
          refine (K.out).mono ?_
          rintro e w2 ⟨rfl, hb⟩
          have hB2 := kcall hbr hb
          clear hb K hbr hbl hcell HC HB
          go_wp2
          go_roundw
          case rel => exact ⟨k + 1, by omega, by go_num, hB2, E.out⟩
          case measure => simp [intOf]; omega
        · rw [decide_eq_false hz, Bool.false_and] at E
          generalize chkS l = e0 at K hz
          go_wp2_with fail
          refine (K.out).mono ?_
          rintro e w2 ⟨rfl, hb⟩
          have hB2 := kcall hbr hb
          clear hb K hbr hbl hcell HC HB
          go_wp2
          go_ret
          exact ⟨ret_bool E.out.symm, hB2⟩
    · rw [List.drop_of_length_le (by omega)] at hq
      have E := hide hq
      clear hq
      go_wp2
      go_ret
      exact ⟨ret_bool E.out.symm, hbr⟩
theorem slsl_3 {w : World} {b : Nat} {A A' A'' : Option Addr} {c c' c'' : Nat} {l l' l'' : List Sp} (hb : Blk w b 30 #[.slice A l.length c, .slice A' l'.length c', .slice A'' l''.length c'']) (h : Sl bc 2 w A c l) (h' : Sl bc 2 w A' c' l') (h'' : Sl bc 2 w A'' c'' l'') : SlSl w b 3 [l, l', l''] :=
  ⟨⟨_, hb, rfl, fun k x hk => by
    match k, hk with
    | 0, hk => simp at hk; subst hk; exact ⟨A, c, rfl, h⟩
    | 1, hk => simp at hk; subst hk; exact ⟨A', c', rfl, h'⟩
    | 2, hk => simp at hk; subst hk; exact ⟨A'', c'', rfl, h''⟩
    | k + 3, hk => simp at hk⟩, rfl⟩
/-- what is known of two right lists -/
theorem rgt_two {a b : List Sp} (h : [a, b].all rgt = true) : a.length ≤ 30 ∧ b.length ≤ 30 ∧ chkS a = 0 ∧ chkS b = 0 := by
  simp [rgt] at h; omega
theorem uniR_is {f : Bool → Bool → Bool} {a b : List Sp} (za : chkS a = 0) (zb : chkS b = 0) : uniR f a b = uni f a b ∧ errS a b = 0 := by
  have : errS a b = 0 := by unfold errS; rw [if_pos za, zb]
  exact ⟨by unfold uniR; rw [if_pos this], this⟩
theorem uniR_bad {f : Bool → Bool → Bool} {a b : List Sp} (h : errS a b ≠ 0) : uniR f a b = [] := by unfold uniR; rw [if_neg h]
theorem chk_uni {f : Bool → Bool → Bool} {a b : List Sp} (hf : f false false = false) (za : chkS a = 0) (zb : chkS b = 0) (hl : a.length + b.length ≤ 4096) : chkS (uni f a b) = 0 :=
  chkS_of (uni_good hf (chkS_good za).1 (chkS_good zb).1) (by have := uni_length (f := f) (a := a) (b := b); omega)
theorem hasE_ok {l : List Sp} {t : Int} (z : chkS l = 0) (ht : 0 ≤ t ∧ t < 1099511627776) : hasE l t = 0 := by unfold hasE; rw [if_pos z, if_pos ht]
theorem hasE_out {l : List Sp} {t : Int} (z : chkS l = 0) (ht : ¬ (0 ≤ t ∧ t < 1099511627776)) : hasE l t = 1 := by unfold hasE; rw [if_pos z, if_neg ht]
theorem hasR_ok {l : List Sp} {t : Int} (z : chkS l = 0) (ht : 0 ≤ t ∧ t < 1099511627776) : hasR l t = inL l t := by unfold hasR; rw [if_pos ⟨z, ht⟩]
end Go.Proofs.Ytbfgbkblblnbhaa
