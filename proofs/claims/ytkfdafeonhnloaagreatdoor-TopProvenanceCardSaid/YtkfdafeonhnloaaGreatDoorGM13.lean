/-
  glossary: isLang, isTime, phrase, right.
  glossary: about, Check.
  glossary: the keys of Standing's map.
-/
import Derived.Test.YtkfdafeonhnloaaGreatDoorGM8
import Derived.Test.YtkfdafeonhnloaaGreatDoorGM9
import Derived.Test.YtkfdafeonhnloaaGreatDoorGM3
import Derived.Deep.RegionHeld3
import Derived.Test.YtkfdafeonhnloaaGreatDoorGM2
import Derived.DeepKeys4
namespace Go.Mine.C
open Go.RowKit Go.Mine
def timeB (n : Int) : Bool := decide (0 ≤ n) && decide (n < 1099511627776)
def langB (n : Int) : Bool := decide (0 ≤ n) && decide (n < 32)
def phraseB (l : List Str) : Bool := decide (1 ≤ l.length) && (decide (l.length ≤ 4) && l.all wordB)
def goneB (x : TermH) : Bool := if x.gone = true then decide (x.target.length = 0) && decide (x.cat.size = 0) else phraseB x.target && nameB x.cat
def rightB (x : TermH) : Bool := decide (0 ≤ x.no) && (decide (x.no ≤ 1048576) && (timeB x.at_ && (timeB x.known && (langB x.lang && (phraseB x.source && goneB x)))))
end Go.Mine.C
namespace Go.Proofs.YtkfdafeonhnloaaGreatDoor
open Go.RowKit Go.Shelf Go.Mine Go.Mine.C
attribute [local go_sem] Oper.semAt_some
theorem lang69 (n : Int) (w : World) : Calls Tryz.prog 69 #[.int .i64 n] w fun e w' => e = .returned (.bool (langB n)) ∧ w = w' := by
 have H := hide (show langB n = (decide (0 ≤ n) && decide (n < 32)) from rfl)
 generalize langB n = R at *
 cases g1 : decide (0 ≤ n)
 ·rw [g1] at H
  go_enter Tryz.func69, Tryz.ntmps69
  go_wp2
  go_ret
  exact ⟨ret_bool H.out.symm, rfl⟩
 ·cases g2 : decide (n < 32)
  all_goals
   rw [g1, g2] at H
   go_enter Tryz.func69, Tryz.ntmps69
   go_wp2
   go_ret
   exact ⟨ret_bool H.out.symm, rfl⟩
theorem time70 (n : Int) (w : World) : Calls Tryz.prog 70 #[.int .i64 n] w fun e w' => e = .returned (.bool (timeB n)) ∧ w = w' := by
 have H := hide (show timeB n = (decide (0 ≤ n) && decide (n < 1099511627776)) from rfl)
 generalize timeB n = R at *
 cases g1 : decide (0 ≤ n)
 ·rw [g1] at H
  go_enter Tryz.func70, Tryz.ntmps70
  go_wp2
  go_ret
  exact ⟨ret_bool H.out.symm, rfl⟩
 ·cases g2 : decide (n < 1099511627776)
  all_goals
   rw [g1, g2] at H
   go_enter Tryz.func70, Tryz.ntmps70
   go_wp2
   go_ret
   exact ⟨ret_bool H.out.symm, rfl⟩
theorem wrong166 (s : ByteArray) (w : World) (hE : Env w) : Calls Tryz.prog 166 #[.string s] w fun e w' => e = .returned (.bool (!wordB s)) ∧ Below w.heap.size w w' := by
 have K := hide (word34 s w hE)
 clear hE
 generalize wordB s = p at *
 cases p
 all_goals
  go_enter Tryz.func166, Tryz.ntmps166
  go_wp2_with fail
  refine K.out.mono ?_
  rintro e w1 ⟨rfl, hb1⟩
  have HB := hide hb1
  clear hb1 K
  go_wp2
  go_ret
  exact ⟨rfl, HB.out⟩
theorem e166 : ∀ args w, (callFunc 166 args).run Tryz.prog w = .ok (.enter 166 args) w := enters_of Tryz.func166 (by kernel_rfl) rfl
theorem any_wrong (l : List ByteArray) : l.any (fun s => !wordB s) = !l.all wordB := by
 induction l with
 | nil => rfl
 | cons s l ih => rw [List.any_cons, List.all_cons, ih, Bool.not_and]
theorem phrase137 (A : Option Addr) (c : Nat) (l : List ByteArray) (w : World) (hS : Sl sc 1 w A c l) (hE : Env w) : Calls Tryz.prog 137 #[.slice A l.length c] w fun e w' => e = .returned (.bool (phraseB l)) ∧ Below w.heap.size w w' := by
 have H := hide (show phraseB l = (decide (1 ≤ l.length) && (decide (l.length ≤ 4) && l.all wordB)) from rfl)
 have K := contains83 166 #[] e166 (fun s => !wordB s) A c l w hS (fun x _ w' hb => by simpa using wrong166 x w' (hE.bel hb))
 rw [any_wrong] at K
 replace K := hide K
 have HB0 := hide (Below.refl w.heap.size w)
 have hl := hS.le
 generalize phraseB l = R at *
 clear hS hE
 by_cases h1 : 1 ≤ l.length
 ·have g1 : decide ((1 : Int) ≤ l.length) = true := decide_eq_true (by omega)
  rw [decide_eq_true h1, Bool.true_and] at H
  by_cases h2 : l.length ≤ 4
  ·have g2 : decide ((l.length : Int) ≤ 4) = true := decide_eq_true (by omega)
   rw [decide_eq_true h2, Bool.true_and] at H
   clear h1 h2
   generalize l.all wordB = p at *
   cases p
   all_goals
    go_enter Tryz.func137, Tryz.ntmps137
    go_wp2_with fail
    refine K.out.mono ?_
    rintro e w1 ⟨rfl, hb1⟩
    have HB := hide hb1
    clear hb1 K
    go_wp2
    go_ret
    exact ⟨ret_bool H.out.symm, HB.out⟩
  ·have g2 : decide ((l.length : Int) ≤ 4) = false := decide_eq_false (by omega)
   rw [decide_eq_false h2, Bool.false_and] at H
   clear h1 h2 K
   go_enter Tryz.func137, Tryz.ntmps137
   go_wp2
   go_ret
   exact ⟨ret_bool H.out.symm, HB0.out⟩
 ·have g1 : decide ((1 : Int) ≤ l.length) = false := decide_eq_false (by omega)
  rw [decide_eq_false h1, Bool.false_and] at H
  clear h1 K
  go_enter Tryz.func137, Tryz.ntmps137
  go_wp2
  go_ret
  exact ⟨ret_bool H.out.symm, HB0.out⟩
set_option maxRecDepth 100000 in
set_option maxHeartbeats 4000000 in
theorem right99 (x : TermH) (w : World) (hx : TermOk w x) (hE : Env w) : Calls Tryz.prog 99 #[termV x] w fun e w' => e = .returned (.bool (rightB x)) ∧ Below w.heap.size w w' := by
 have HR := hide (show rightB x = (decide (0 ≤ x.no) && (decide (x.no ≤ 1048576) && (timeB x.at_ && (timeB x.known && (langB x.lang && (phraseB x.source && goneB x)))))) from rfl)
 have HRG := hide (show goneB x = if x.gone = true then decide (x.target.length = 0) && decide (x.cat.size = 0) else phraseB x.target && nameB x.cat from rfl)
 generalize rightB x = R at *
 generalize goneB x = RG at *
 have k0 := kalloc (Below.refl w.heap.size w) (.cells #[.int .i64 x.no, .int .i64 x.at_, .int .i64 x.known, .int .i64 x.lang, .slice x.sA x.source.length x.sC, .slice x.tA x.target.length x.tC, .string x.cat, .bool x.gone] 85)
 have b0 := Blk.new w #[.int .i64 x.no, .int .i64 x.at_, .int .i64 x.known, .int .i64 x.lang, .slice x.sA x.source.length x.sC, .slice x.tA x.target.length x.tC, .string x.cat, .bool x.gone] 85
 have HX := hide (hx.bel k0)
 have HE := hide (hE.bel k0)
 have HK := hide k0
 simp only [termV]
 clear hx hE k0
 have KT := hide time70
 have KL := hide lang69
 go_enter Tryz.func99, Tryz.ntmps99
 (refine wp_seq_k (fun K hK => ?_); replace hK := hide hK; go_wp2_with fail; refine hK.out _ _ ?_; clear hK K)
 obtain ⟨W, hW⟩ : ∃ W, W = w.alloc (.cells #[.int .i64 x.no, .int .i64 x.at_, .int .i64 x.known, .int .i64 x.lang, .slice x.sA x.source.length x.sC, .slice x.tA x.target.length x.tC, .string x.cat, .bool x.gone] 85) := ⟨_, rfl⟩
 rw [← hW] at b0 HX HE HK ⊢
 have x0 := b0.cell (v := .int .i64 x.no) 0 rfl
 have x1 := b0.cell (v := .int .i64 x.at_) 1 rfl
 have x2 := b0.cell (v := .int .i64 x.known) 2 rfl
 have x3 := b0.cell (v := .int .i64 x.lang) 3 rfl
 have x4 := b0.cell (v := .slice x.sA x.source.length x.sC) 4 rfl
 have xl := b0.lt
 have B0 := hide b0
 clear b0 hW
 by_cases h1 : 0 ≤ x.no
 ·have g1 : decide (x.no < 0) = false := decide_eq_false (by omega)
  rw [decide_eq_true h1, Bool.true_and] at HR
  by_cases h2 : x.no ≤ 1048576
  ·have g2 : decide (1048576 < x.no) = false := decide_eq_false (by omega)
   rw [decide_eq_true h2, Bool.true_and] at HR
   clear h1 h2
   have K1 := hide (KT.out x.at_ W)
   have K2 := hide (KT.out x.known W)
   have K3 := hide (KL.out x.lang W)
   have K4 := hide (phrase137 x.sA x.sC x.source W HX.out.source HE.out)
   clear KT KL
   generalize timeB x.at_ = p1 at *
   generalize timeB x.known = p2 at *
   generalize langB x.lang = p3 at *
   generalize phraseB x.source = p4 at *
   go_wp2_with fail
   refine K1.out.mono ?_
   rintro e w1 ⟨rfl, rfl⟩
   cases p1
   ·go_wp2
    go_ret
    exact ⟨ret_bool HR.out.symm, HK.out⟩
   rw [Bool.true_and] at HR
   go_wp2_with fail
   refine K2.out.mono ?_
   rintro e w1 ⟨rfl, rfl⟩
   cases p2
   ·go_wp2
    go_ret
    exact ⟨ret_bool HR.out.symm, HK.out⟩
   rw [Bool.true_and] at HR
   go_wp2_with fail
   refine K3.out.mono ?_
   rintro e w1 ⟨rfl, rfl⟩
   cases p3
   ·go_wp2
    go_ret
    exact ⟨ret_bool HR.out.symm, HK.out⟩
   rw [Bool.true_and] at HR
   go_wp2_with fail
   refine K4.out.mono ?_
   rintro e w2 ⟨rfl, hb2⟩
   have b0 := B0.out.bel hb2
   replace HX := hide (HX.out.bel hb2)
   replace HE := hide (HE.out.bel hb2)
   replace HK := hide (kcall HK.out hb2)
   clear x0 x1 x2 x3 x4 xl hb2 K1 K2 K3 K4 B0
   have x5 := b0.cell (v := .slice x.tA x.target.length x.tC) 5 rfl
   have x6 := b0.cell (v := .string x.cat) 6 rfl
   have x7 := b0.cell (v := .bool x.gone) 7 rfl
   have xl := b0.lt
   have B0 := hide b0
   clear b0
   cases p4
   ·go_wp2
    go_ret
    exact ⟨ret_bool HR.out.symm, HK.out⟩
   rw [Bool.true_and] at HR
   have HR2 := hide (HR.out.trans HRG.out)
   clear HR HRG
   cases hg : x.gone
   ·rw [hg, if_neg (by decide)] at HR2
    rw [hg] at x7
    have K5 := hide (phrase137 x.tA x.tC x.target w2 HX.out.target HE.out)
    generalize phraseB x.target = p5 at *
    go_wp2_with fail
    refine K5.out.mono ?_
    rintro e w3 ⟨rfl, hb3⟩
    have b0 := B0.out.bel hb3
    replace HK := hide (kcall HK.out hb3)
    clear x5 x6 x7 xl hb3 K5 B0
    have x6 := b0.cell (v := .string x.cat) 6 rfl
    have xl := b0.lt
    have K6 := hide (name138 x.cat w3)
    clear b0
    cases p5
    ·go_wp2
     go_ret
     exact ⟨ret_bool HR2.out.symm, HK.out⟩
    rw [Bool.true_and] at HR2
    go_wp2_with fail
    refine K6.out.mono ?_
    rintro e w4 ⟨rfl, rfl⟩
    go_wp2
    go_ret
    exact ⟨ret_bool HR2.out.symm, HK.out⟩
   ·rw [hg, if_pos rfl] at HR2
    rw [hg] at x7
    by_cases h5 : x.target.length = 0
    ·have g5 : ((x.target.length : Int) == 0) = true := by simp [h5]
     have g6 : (x.target.length == 0) = true := by simp [h5]
     rw [decide_eq_true h5, Bool.true_and] at HR2
     by_cases h6 : x.cat.size = 0
     ·have e := str_empty h6
      rw [e] at x6
      rw [decide_eq_true h6] at HR2
      clear h5 h6 e
      go_wp2
      go_ret
      exact ⟨ret_bool HR2.out.symm, HK.out⟩
     ·have e := str_ne h6
      rw [decide_eq_false h6] at HR2
      clear h5 h6
      go_wp2
      go_ret
      exact ⟨ret_bool HR2.out.symm, HK.out⟩
    ·have g5 : ((x.target.length : Int) == 0) = false := by simpa using h5
     have g6 : (x.target.length == 0) = false := by simpa using h5
     rw [decide_eq_false h5, Bool.false_and] at HR2
     clear h5
     go_wp2
     go_ret
     exact ⟨ret_bool HR2.out.symm, HK.out⟩
  ·have g2 : decide (1048576 < x.no) = true := decide_eq_true (by omega)
   rw [decide_eq_false h2, Bool.false_and] at HR
   clear h1 h2 KT KL
   go_wp2
   go_ret
   exact ⟨ret_bool HR.out.symm, HK.out⟩
 ·have g1 : decide (x.no < 0) = true := decide_eq_true (by omega)
  rw [decide_eq_false h1, Bool.false_and] at HR
  clear h1 KT KL
  go_wp2
  go_ret
  exact ⟨ret_bool HR.out.symm, HK.out⟩
end Go.Proofs.YtkfdafeonhnloaaGreatDoor
namespace Go.Mine.C
open Go.RowKit Go.Mine
def joinS (l : List Str) : Str := ⟨(Lib.join (l.map (·.data.toList)) [10]).toArray⟩
theorem lens_le (B : Nat) : ∀ (l : List (List UInt8)), (∀ x ∈ l, x.length ≤ B) → Lib.lens l ≤ l.length * B
  | [], _ => by simp [Lib.lens]
  | x :: l, h => by
    have h1 := h x (by simp)
    have h2 := lens_le B l (fun z hz => h z (by simp [hz]))
    have : Lib.lens (x :: l) = x.length + Lib.lens l := by simp [Lib.lens]
    rw [this, List.length_cons, Nat.succ_mul]; omega
theorem join_le (B : Nat) (l : List (List UInt8)) (h : ∀ x ∈ l, x.length ≤ B) : (Lib.join l [10]).length ≤ l.length * (B + 1) := by
  cases l with
  | nil => simp [Lib.join_nil]
  | cons x l =>
    have h1 := h x (by simp)
    have h2 := lens_le B l (fun z hz => h z (by simp [hz]))
    have e1 : (Lib.join (x :: l) [10]).length = x.length + (1 * l.length + Lib.lens l) := by rw [Lib.join_cons, List.length_append, Lib.joinTail_length]; rfl
    have e2 : (x :: l).length * (B + 1) = l.length * B + l.length + (B + 1) := by rw [List.length_cons, Nat.succ_mul, Nat.mul_succ]
    rw [e1, e2]; omega
theorem word_size {s : Str} (h : wordB s = true) : s.size ≤ 64 := by
  unfold wordB at h
  simp only [Bool.and_eq_true, decide_eq_true_eq] at h
  exact h.1.2
theorem phrase_word {l : List Str} (h : phraseB l = true) : 1 ≤ l.length ∧ l.length ≤ 4 ∧ ∀ s ∈ l, wordB s = true := by
  unfold phraseB at h
  simp only [Bool.and_eq_true, decide_eq_true_eq, List.all_eq_true] at h
  exact h
theorem phrase_join {l : List Str} (h : phraseB l = true) : (Lib.join (l.map (·.data.toList)) [10]).length ≤ 260 := by
  obtain ⟨_, h2, h3⟩ := phrase_word h
  have := join_le 64 (l.map (·.data.toList)) (fun x hx => by
    obtain ⟨s, hs, rfl⟩ := List.mem_map.1 hx
    have := word_size (h3 s hs)
    simpa using this)
  rw [List.length_map] at this
  have : l.length * (64 + 1) ≤ 4 * (64 + 1) := Nat.mul_le_mul_right _ h2
  omega
abbrev Key := Int × Str
def keyT (x : TermH) : Key := (x.lang, joinS x.source)
def keyV (k : Key) : Value := .agg #[.int .i64 k.1, .string k.2]
def okTs (l : List TermH) (last : Int) : Bool := match l with
  | [] => true
  | x :: l => rightB x && (decide (last < x.no) && okTs l x.no)
def termsB (l : List TermH) : Bool := decide (l.length ≤ 1024) && okTs l (-1)
theorem okTs_right : ∀ {l : List TermH} {last : Int}, okTs l last = true → ∀ x ∈ l, rightB x = true
  | [], _, _, x, hx => by cases hx
  | y :: l, last, h, x, hx => by
    simp only [okTs, Bool.and_eq_true] at h
    rcases List.mem_cons.1 hx with rfl | hx
    · exact h.1
    · exact okTs_right h.2.2 x hx
theorem right_source {x : TermH} (h : rightB x = true) : phraseB x.source = true := by
  unfold rightB at h
  simp only [Bool.and_eq_true] at h
  exact h.2.2.2.2.2.1
end Go.Mine.C
namespace Go.Proofs.YtkfdafeonhnloaaGreatDoor
open Go.RowKit Go.Shelf Go.Mine Go.Mine.C
attribute [local go_sem] Oper.semAt_some
set_option maxRecDepth 100000 in
theorem about71 (x : TermH) (w : World) (hx : TermOk w x) (hr : rightB x = true) : Calls Tryz.prog 71 #[termV x] w fun e w' => e = .returned (keyV (keyT x)) ∧ Below w.heap.size w w' := by
  have hp := right_source hr
  obtain ⟨hp1, hp2, _⟩ := phrase_word hp
  have hj := phrase_join hp
  have k0 := kalloc (kalloc (Below.refl w.heap.size w) (.cells #[.int .i64 x.no, .int .i64 x.at_, .int .i64 x.known, .int .i64 x.lang, .slice x.sA x.source.length x.sC, .slice x.tA x.target.length x.tC, .string x.cat, .bool x.gone] 85)) (.cells #[.int .i64 0, .string ⟨#[]⟩] 141)
  have HS := hide (hx.source.bel k0)
  have HK := hide k0
  have hle := hx.source.le
  have hmx := hx.source.max
  obtain ⟨b, off, hA, hb, hcell⟩ := hx.source.addr (by intro e; rw [e] at hp1; simp at hp1)
  have K := fun (W : World) (hW : Below w.heap.size w W) => sh_strings_Join b off x.sC x.source ⟨#[10]⟩ W (fun j y hj => by
      have := hcell j y hj 0 (.string y) rfl
      rw [hW.cell (p := ⟨b, off + j, none⟩) hb]
      simpa using this) (Nat.lt_of_lt_of_le hb hW.size) (by omega) hle (by
      have e : (ByteArray.mk #[10]).data.toList = [10] := rfl
      rw [e]; exact Nat.le_trans hj (by decide))
  rw [← hA] at K
  have e : (ByteArray.mk #[10]).data.toList = [10] := rfl
  rw [e] at K
  have K' : ∀ W, Below w.heap.size w W → Calls Tryz.prog 33 #[.slice x.sA x.source.length x.sC, .string ⟨#[10]⟩] W fun e w' => e = .returned (.string (joinS x.source)) ∧ Below W.heap.size W w' := K
  have HKK := hide K'
  have b0 := (Blk.new w #[.int .i64 x.no, .int .i64 x.at_, .int .i64 x.known, .int .i64 x.lang, .slice x.sA x.source.length x.sC, .slice x.tA x.target.length x.tC, .string x.cat, .bool x.gone] 85).alloc (.cells #[.int .i64 0, .string ⟨#[]⟩] 141)
  have b1 := Blk.new1 w (.cells #[.int .i64 x.no, .int .i64 x.at_, .int .i64 x.known, .int .i64 x.lang, .slice x.sA x.source.length x.sC, .slice x.tA x.target.length x.tC, .string x.cat, .bool x.gone] 85) #[.int .i64 0, .string ⟨#[]⟩] 141
  simp only [termV, keyV, keyT]
  generalize joinS x.source = s at *
  clear K K' hp hj hcell hb hA k0 hr hx e
  go_enter Tryz.func71, Tryz.ntmps71
  (refine wp_seq_k (fun K hK => ?_); replace hK := hide hK; go_wp2_with fail; refine hK.out _ _ ?_; clear hK K)
  obtain ⟨W, hW⟩ : ∃ W, W = (w.alloc (.cells #[.int .i64 x.no, .int .i64 x.at_, .int .i64 x.known, .int .i64 x.lang, .slice x.sA x.source.length x.sC, .slice x.tA x.target.length x.tC, .string x.cat, .bool x.gone] 85)).alloc (.cells #[.int .i64 0, .string ⟨#[]⟩] 141) := ⟨_, rfl⟩
  rw [← hW] at b0 b1 HK ⊢
  have x3 := b0.cell (v := .int .i64 x.lang) 3 rfl
  have x4 := b0.cell (v := .slice x.sA x.source.length x.sC) 4 rfl
  have xl := b0.lt
  have B0 := hide b0
  have B1 := hide b1
  clear b0 b1 hW
  go_wp2_with fail
  go_region_held3 (fun w' => w'.cell? ⟨w.heap.size, 3, none⟩ = some (.int .i64 x.lang) ∧ w'.cell? ⟨w.heap.size, 4, none⟩ = some (.slice x.sA x.source.length x.sC))
    (first | exact ⟨x3, x4⟩ | exact ⟨u3, u4⟩ | go_keep)
    (first
      | (go_at_call 33
         refine (HKK.out _ HK.out.drew).mono ?_
         rintro e w2 ⟨rfl, hb2⟩
         have u3 := (hb2.cell (p := ⟨w.heap.size, 3, none⟩) xl).trans x3
         have u4 := (hb2.cell (p := ⟨w.heap.size, 4, none⟩) xl).trans x4
         have B2 := B1.out.drew.bel hb2
         have y0 := B2.cell (v := .int .i64 0) 0 rfl
         have y1 := B2.cell (v := .string ⟨#[]⟩) 1 rfl
         have yl := B2.lt
         have yt := B2.thaw))
  have HE := hide (((kcall HK.out.drew hb2).setCell (p := ⟨w.heap.size + 1, 0, none⟩) (by dsimp only; omega) (.int .i64 x.lang)).setCell (p := ⟨w.heap.size + 1, 1, none⟩) (by dsimp only; omega) (.string s))
  have B3 := (B2.set 0 (.int .i64 x.lang) rfl).set 1 (.string s) rfl
  obtain ⟨W, hW⟩ : ∃ W, W = (w2.setCell ⟨w.heap.size + 1, 0, none⟩ (.int .i64 x.lang)).setCell ⟨w.heap.size + 1, 1, none⟩ (.string s) := ⟨_, rfl⟩
  rw [← hW] at HE B3 ⊢
  have z0 := B3.cell (v := .int .i64 x.lang) 0 rfl
  have z1 := B3.cell (v := .string s) 1 rfl
  clear x3 x4 u3 u4 y0 y1 yl yt B2 B3 hb2 hW
  go_wp2
  refine bodyPost_ret (v := .agg #[.int .i64 x.lang, .string s]) (by simp [results, Tryz.results71, go_sem, z0, z1]) rfl ⟨rfl, HE.out⟩
set_option maxRecDepth 100000 in
set_option maxHeartbeats 4000000 in
theorem check68 (A : Option Addr) (c : Nat) (l : List TermH) (w : World) (hS : Sl termC 8 w A c l) (ho : ∀ x ∈ l, TermOk w x) (hE : Env w) :
    Calls Tryz.prog 68 #[.slice A l.length c] w fun e w' => (∃ er : Int, e = .returned (.int .i64 er) ∧ (er = 0 ↔ termsB l = true)) ∧ Below w.heap.size w w' := by
  have HR := hide (show termsB l = (decide (l.length ≤ 1024) && okTs l (-1)) from rfl)
  have HBAD := hide (fun (er : Int) (he : er ≠ 0) (h : termsB l = false) => show ∃ er' : Int, Ending.returned (.int .i64 er) = .returned (.int .i64 er') ∧ (er' = 0 ↔ termsB l = true) from ⟨er, rfl, by rw [h]; simp [he]⟩)
  have HGOOD := hide (fun (h : termsB l = true) => show ∃ er' : Int, Ending.returned (.int .i64 0) = .returned (.int .i64 er') ∧ (er' = 0 ↔ termsB l = true) from ⟨0, rfl, by rw [h]; simp⟩)
  have HS := hide hS
  have HO := hide ho
  have HE := hide hE
  have HB0 := hide (Below.refl w.heap.size w)
  have hle := hS.le
  have hmx := hS.max
  clear hS ho hE
  by_cases h1 : l.length ≤ 1024
  · have g1 : decide ((1024 : Int) < l.length) = false := decide_eq_false (by omega)
    rw [decide_eq_true h1, Bool.true_and] at HR
    have HT := hide h1
    clear h1
    go_enter Tryz.func68, Tryz.ntmps68
    go_wp2
    go_loopw [3, 11] (fun la i wr => ∃ (k : Nat) (last : Int), k ≤ l.length ∧ i = .int .i64 k ∧ la = .int .i64 last ∧ Hid (okTs l (-1) = okTs (l.drop k) last) ∧ Hid (Below w.heap.size w wr)) (fun _ i _ => l.length - (nI i).toNat)
    case atStart => exact ⟨0, -1, Nat.zero_le _, rfl, rfl, hide rfl, HB0⟩
    case round =>
      obtain ⟨k, last, hk, rfl, rfl, HQ, HB⟩ := hrel
      by_cases hlt : k < l.length
      · obtain ⟨x, b, off, hx, hdr, hA, hbw, c0, c1, c2, c3, c4, c5, c6, c7⟩ := term_at (HS.out.bel HB.out) hlt
        have hmem := List.mem_of_getElem? hx
        have k0 := kalloc (Below.refl wr.heap.size wr) (.cells #[.int .i64 x.no, .int .i64 x.at_, .int .i64 x.known, .int .i64 x.lang, .slice x.sA x.source.length x.sC, .slice x.tA x.target.length x.tC, .string x.cat, .bool x.gone] 85)
        have K := right99 x _ (((HO.out x hmem).bel HB.out).bel k0) ((HE.out.bel HB.out).bel k0)
        simp only [termV] at K
        replace K := hide K
        have B0 := hide (Blk.new wr #[.int .i64 x.no, .int .i64 x.at_, .int .i64 x.known, .int .i64 x.lang, .slice x.sA x.source.length x.sC, .slice x.tA x.target.length x.tC, .string x.cat, .bool x.gone] 85)
        have HK := hide (kcall HB.out k0)
        have hq := HQ.out
        rw [hdr, okTs] at hq
        subst hA
        generalize rightB x = p at *
        clear k0 hx hdr hmem
        go_wp2_with fail
        refine K.out.mono ?_
        rintro e w2 ⟨rfl, hb2⟩
        have b1 := B0.out.bel hb2
        have x0 := b1.cell (v := .int .i64 x.no) 0 rfl
        have xl := b1.lt
        have HK2 := hide (kcall HK.out hb2)
        clear K B0 hb2 b1 c0 c1 c2 c3 c4 c5 c6 c7 hbw HK
        cases p
        · have HF := hide (HR.out.trans (hq.trans (Bool.false_and _)))
          clear hq
          go_wp2
          go_ret
          exact ⟨HBAD.out _ (by decide) HF.out, HK2.out⟩
        · rw [Bool.true_and] at hq
          by_cases hl : last < x.no
          · have g2 : decide (x.no ≤ last) = false := decide_eq_false (by omega)
            rw [decide_eq_true hl, Bool.true_and] at hq
            have HQ2 := hide hq
            have HT' := HT.out
            clear hq hl HQ
            go_wp2
            go_roundw
            case rel => exact ⟨k + 1, x.no, by omega, by go_num, rfl, HQ2, HK2⟩
            case measure => simp [nI]; omega
          · have g2 : decide (x.no ≤ last) = true := decide_eq_true (by omega)
            rw [decide_eq_false hl, Bool.false_and] at hq
            have HF := hide (HR.out.trans hq)
            clear hq hl HQ
            go_wp2
            go_ret
            exact ⟨HBAD.out _ (by decide) HF.out, HK2.out⟩
      · obtain rfl : k = l.length := by omega
        have hq := HQ.out
        rw [List.drop_of_length_le (Nat.le_refl _), okTs] at hq
        have HF := hide (HR.out.trans hq)
        clear hq HQ
        go_wp2
        go_ret
        exact ⟨HGOOD.out HF.out, HB.out⟩
  · have g1 : decide ((1024 : Int) < l.length) = true := decide_eq_true (by omega)
    rw [decide_eq_false h1, Bool.false_and] at HR
    clear h1
    go_enter Tryz.func68, Tryz.ntmps68
    go_wp2
    go_ret
    exact ⟨HBAD.out _ (by decide) HR.out, HB0.out⟩
end Go.Proofs.YtkfdafeonhnloaaGreatDoor
namespace Go.Mine.C
open Go.RowKit Go.Mine
def litK (k : Key) : Lit := .string (keyBytes [.int .i64 k.1, .string k.2.data.toList])
def okK (k : Key) : Prop := I64 k.1 ∧ k.2.size ≤ maxLen
end Go.Mine.C
namespace Go.Proofs.YtkfdafeonhnloaaGreatDoor
open Go.RowKit Go.Shelf Go.Mine Go.Mine.C
theorem row141 : (141 : TypeId) < Tryz.prog.types.size := of_decide_eq_true (by kernel_rfl)
theorem wide141 : (match Tryz.prog.underlying 141 with | some (.array _ _) | some (.struct _) => true | _ => false) = true := by kernel_rfl
theorem laid8 : laidOutB Tryz.prog = true := by kernel_rfl
set_option maxRecDepth 100000 in
theorem law141 : WideMaps.KeyLaw Tryz.prog 141 := deep_law_laid laid8 (m := 3) (by omega) row141 (by kernel_rfl) wide141
theorem kt141 : Tryz.prog.keyType 141 = true := by kernel_rfl
theorem cells141 : Tryz.prog.cellsOf 141 = 2 := by kernel_rfl
theorem cells3 : Tryz.prog.cellsOf 3 = 1 := by kernel_rfl
theorem cells9 : Tryz.prog.cellsOf 9 = 1 := by kernel_rfl
theorem size141 : ∃ m, Tryz.prog.types.size = m + 2 := ⟨Tryz.prog.types.size - 2, by have : 2 ≤ Tryz.prog.types.size := Nat.le_trans (by decide) (Nat.le_of_lt row141); omega⟩
theorem keyOf141 {k : Key} (hk : okK k) : keyOf Tryz.prog 141 (keyV k) = some (litK k) := by
 obtain ⟨n, s⟩ := k
 obtain ⟨h1, h2⟩ := hk
 obtain ⟨m, hm⟩ := size141
 have hw := I64.wf h1
 have hf : (Tryz.prog.keyType 141 && Value.formed Tryz.prog 141 (Value.agg #[Value.int IntKind.i64 n, Value.string s])) = true := by simp [kt141, Value.formed, Tryz.underlying141, cells141]
 unfold keyOf
 simp only [Tryz.underlying141, keyV]
 refine (if_pos hf).trans ?_
 rw [hm]
 unfold Program.keyLits
 simp only [Tryz.underlying141, Value.cells]
 simp [cells141, Program.keyLits, cells3, cells9, Tryz.underlying3, Tryz.underlying9, hw, h2, litK]
theorem keyK : KeyG Tryz.prog 141 keyV litK okK :=
 ⟨Maps.Keyed.of_law law141, fun h => keyOf141 h, fun {a b} ha hb e => by
  have := law141.inj (keyOf141 ha) (e ▸ keyOf141 hb)
  obtain ⟨a1, a2⟩ := a
  obtain ⟨b1, b2⟩ := b
  simp only [keyV] at this
  injection this with this
  have h := congrArg Array.toList this
  simp only at h
  injection h with h1 h2
  injection h2 with h2 _
  injection h1 with _ h1
  injection h2 with h2
  rw [h1, h2]⟩
end Go.Proofs.YtkfdafeonhnloaaGreatDoor
