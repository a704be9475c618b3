/-
  lex.class, lex.Name: a name is a letter, then letters, digits and '_', at most 32 bytes.
  lex.Name.
-/
import Derived.Test.YtkfdafeonhnloaaGreatDoorGM3
import Derived.Test.YtkfdafeonhnloaaGreatDoorGM4
namespace Go.Mine.C
def letB (c : Nat) : Bool := (decide (97 ≤ c) && decide (c ≤ 122)) || (decide (65 ≤ c) && decide (c ≤ 90))
def digB (c : Nat) : Bool := decide (48 ≤ c) && decide (c ≤ 57)
def ClsE (c : Nat) (e : Ending) : Prop := ∃ n : Int, e = .returned (.int .i64 n) ∧ (n = 2 ↔ letB c = true) ∧ (n = 3 ↔ digB c = true) ∧ (n = 5 ↔ c = 95)
def nmB (c : Nat) : Bool := letB c || digB c || decide (c = 95)
def nameB (s : ByteArray) : Bool := decide (0 < s.size) && decide (s.size ≤ 32) && letB (s.get! 0).toNat && s.data.toList.all fun b => nmB b.toNat
end Go.Mine.C
namespace Go.Proofs.YtkfdafeonhnloaaGreatDoor
open Go.RowKit Go.Mine Go.Mine.C
set_option maxHeartbeats 1000000 in
theorem class167_0 (c : Nat) (hc : c < 256) (hb : c ≤ 47) (w : World) : Calls Tryz.prog 167 #[.int .u8 c] w fun e w' => ClsE c e ∧ w = w' := by
 have g0 : decide ((97 : Int) ≤ c) = false := by simp; omega
 have g1 : decide ((c : Int) ≤ 122) = true := by simp; omega
 have g2 : decide ((65 : Int) ≤ c) = false := by simp; omega
 have g3 : decide ((c : Int) ≤ 90) = true := by simp; omega
 have g4 : decide ((48 : Int) ≤ c) = false := by simp; omega
 have g5 : decide ((c : Int) ≤ 57) = true := by simp; omega
 have g9 : ((c : Int) == 95) = false := by simp; omega
 have E := hide (show ∀ n : Int, (n = 0 ∨ n = 1 ∨ n = 4) → ClsE c (.returned (.int .i64 n)) from fun n hn => ⟨n, rfl, by simp [letB]; omega, by simp [digB]; omega, by omega⟩)
 clear hc hb
 go_enter Tryz.func167, Tryz.ntmps167
 go_wp2_with (go_at_call 176; refine (sh_strings_IndexByte _ _ _).mono ?_; rintro e w1 ⟨rfl, rfl⟩)
 all_goals
  go_ret
  exact ⟨E.out _ (by omega), rfl⟩
set_option maxHeartbeats 1000000 in
theorem class167_1 (c : Nat) (hc : c < 256) (ha : 48 ≤ c) (hb : c ≤ 57) (w : World) : Calls Tryz.prog 167 #[.int .u8 c] w fun e w' => ClsE c e ∧ w = w' := by
 have g0 : decide ((97 : Int) ≤ c) = false := by simp; omega
 have g1 : decide ((c : Int) ≤ 122) = true := by simp; omega
 have g2 : decide ((65 : Int) ≤ c) = false := by simp; omega
 have g3 : decide ((c : Int) ≤ 90) = true := by simp; omega
 have g4 : decide ((48 : Int) ≤ c) = true := by simp; omega
 have g5 : decide ((c : Int) ≤ 57) = true := by simp; omega
 have g9 : ((c : Int) == 95) = false := by simp; omega
 have E := hide (show ClsE c (.returned (.int .i64 3)) from ⟨3, rfl, by simp [letB]; omega, by simp [digB]; omega, by omega⟩)
 clear hc ha hb
 go_enter Tryz.func167, Tryz.ntmps167
 go_wp2
 go_ret
 exact ⟨E.out, rfl⟩
set_option maxHeartbeats 1000000 in
theorem class167_2 (c : Nat) (hc : c < 256) (ha : 58 ≤ c) (hb : c ≤ 64) (w : World) : Calls Tryz.prog 167 #[.int .u8 c] w fun e w' => ClsE c e ∧ w = w' := by
 have g0 : decide ((97 : Int) ≤ c) = false := by simp; omega
 have g1 : decide ((c : Int) ≤ 122) = true := by simp; omega
 have g2 : decide ((65 : Int) ≤ c) = false := by simp; omega
 have g3 : decide ((c : Int) ≤ 90) = true := by simp; omega
 have g4 : decide ((48 : Int) ≤ c) = true := by simp; omega
 have g5 : decide ((c : Int) ≤ 57) = false := by simp; omega
 have g9 : ((c : Int) == 95) = false := by simp; omega
 have E := hide (show ∀ n : Int, (n = 0 ∨ n = 1 ∨ n = 4) → ClsE c (.returned (.int .i64 n)) from fun n hn => ⟨n, rfl, by simp [letB]; omega, by simp [digB]; omega, by omega⟩)
 clear hc ha hb
 go_enter Tryz.func167, Tryz.ntmps167
 go_wp2_with (go_at_call 176; refine (sh_strings_IndexByte _ _ _).mono ?_; rintro e w1 ⟨rfl, rfl⟩)
 all_goals
  go_ret
  exact ⟨E.out _ (by omega), rfl⟩
set_option maxHeartbeats 1000000 in
theorem class167_3 (c : Nat) (hc : c < 256) (ha : 65 ≤ c) (hb : c ≤ 90) (w : World) : Calls Tryz.prog 167 #[.int .u8 c] w fun e w' => ClsE c e ∧ w = w' := by
 have g0 : decide ((97 : Int) ≤ c) = false := by simp; omega
 have g1 : decide ((c : Int) ≤ 122) = true := by simp; omega
 have g2 : decide ((65 : Int) ≤ c) = true := by simp; omega
 have g3 : decide ((c : Int) ≤ 90) = true := by simp; omega
 have g4 : decide ((48 : Int) ≤ c) = true := by simp; omega
 have g5 : decide ((c : Int) ≤ 57) = false := by simp; omega
 have g9 : ((c : Int) == 95) = false := by simp; omega
 have E := hide (show ClsE c (.returned (.int .i64 2)) from ⟨2, rfl, by simp [letB]; omega, by simp [digB]; omega, by omega⟩)
 clear hc ha hb
 go_enter Tryz.func167, Tryz.ntmps167
 go_wp2
 go_ret
 exact ⟨E.out, rfl⟩
set_option maxHeartbeats 1000000 in
theorem class167_4 (c : Nat) (hc : c < 256) (ha : 91 ≤ c) (hb : c ≤ 94) (w : World) : Calls Tryz.prog 167 #[.int .u8 c] w fun e w' => ClsE c e ∧ w = w' := by
 have g0 : decide ((97 : Int) ≤ c) = false := by simp; omega
 have g1 : decide ((c : Int) ≤ 122) = true := by simp; omega
 have g2 : decide ((65 : Int) ≤ c) = true := by simp; omega
 have g3 : decide ((c : Int) ≤ 90) = false := by simp; omega
 have g4 : decide ((48 : Int) ≤ c) = true := by simp; omega
 have g5 : decide ((c : Int) ≤ 57) = false := by simp; omega
 have g9 : ((c : Int) == 95) = false := by simp; omega
 have E := hide (show ∀ n : Int, (n = 0 ∨ n = 1 ∨ n = 4) → ClsE c (.returned (.int .i64 n)) from fun n hn => ⟨n, rfl, by simp [letB]; omega, by simp [digB]; omega, by omega⟩)
 clear hc ha hb
 go_enter Tryz.func167, Tryz.ntmps167
 go_wp2_with (go_at_call 176; refine (sh_strings_IndexByte _ _ _).mono ?_; rintro e w1 ⟨rfl, rfl⟩)
 all_goals
  go_ret
  exact ⟨E.out _ (by omega), rfl⟩
set_option maxHeartbeats 1000000 in
theorem class167_5 (c : Nat) (hc : c < 256) (ha : 95 ≤ c) (hb : c ≤ 95) (w : World) : Calls Tryz.prog 167 #[.int .u8 c] w fun e w' => ClsE c e ∧ w = w' := by
 have g0 : decide ((97 : Int) ≤ c) = false := by simp; omega
 have g1 : decide ((c : Int) ≤ 122) = true := by simp; omega
 have g2 : decide ((65 : Int) ≤ c) = true := by simp; omega
 have g3 : decide ((c : Int) ≤ 90) = false := by simp; omega
 have g4 : decide ((48 : Int) ≤ c) = true := by simp; omega
 have g5 : decide ((c : Int) ≤ 57) = false := by simp; omega
 have g9 : ((c : Int) == 95) = true := by simp; omega
 have E := hide (show ClsE c (.returned (.int .i64 5)) from ⟨5, rfl, by simp [letB]; omega, by simp [digB]; omega, by omega⟩)
 clear hc ha hb
 go_enter Tryz.func167, Tryz.ntmps167
 go_wp2
 go_ret
 exact ⟨E.out, rfl⟩
set_option maxHeartbeats 1000000 in
theorem class167_6 (c : Nat) (hc : c < 256) (ha : 96 ≤ c) (hb : c ≤ 96) (w : World) : Calls Tryz.prog 167 #[.int .u8 c] w fun e w' => ClsE c e ∧ w = w' := by
 have g0 : decide ((97 : Int) ≤ c) = false := by simp; omega
 have g1 : decide ((c : Int) ≤ 122) = true := by simp; omega
 have g2 : decide ((65 : Int) ≤ c) = true := by simp; omega
 have g3 : decide ((c : Int) ≤ 90) = false := by simp; omega
 have g4 : decide ((48 : Int) ≤ c) = true := by simp; omega
 have g5 : decide ((c : Int) ≤ 57) = false := by simp; omega
 have g9 : ((c : Int) == 95) = false := by simp; omega
 have E := hide (show ∀ n : Int, (n = 0 ∨ n = 1 ∨ n = 4) → ClsE c (.returned (.int .i64 n)) from fun n hn => ⟨n, rfl, by simp [letB]; omega, by simp [digB]; omega, by omega⟩)
 clear hc ha hb
 go_enter Tryz.func167, Tryz.ntmps167
 go_wp2_with (go_at_call 176; refine (sh_strings_IndexByte _ _ _).mono ?_; rintro e w1 ⟨rfl, rfl⟩)
 all_goals
  go_ret
  exact ⟨E.out _ (by omega), rfl⟩
set_option maxHeartbeats 1000000 in
theorem class167_7 (c : Nat) (hc : c < 256) (ha : 97 ≤ c) (hb : c ≤ 122) (w : World) : Calls Tryz.prog 167 #[.int .u8 c] w fun e w' => ClsE c e ∧ w = w' := by
 have g0 : decide ((97 : Int) ≤ c) = true := by simp; omega
 have g1 : decide ((c : Int) ≤ 122) = true := by simp; omega
 have g2 : decide ((65 : Int) ≤ c) = true := by simp; omega
 have g3 : decide ((c : Int) ≤ 90) = false := by simp; omega
 have g4 : decide ((48 : Int) ≤ c) = true := by simp; omega
 have g5 : decide ((c : Int) ≤ 57) = false := by simp; omega
 have g9 : ((c : Int) == 95) = false := by simp; omega
 have E := hide (show ClsE c (.returned (.int .i64 2)) from ⟨2, rfl, by simp [letB]; omega, by simp [digB]; omega, by omega⟩)
 clear hc ha hb
 go_enter Tryz.func167, Tryz.ntmps167
 go_wp2
 go_ret
 exact ⟨E.out, rfl⟩
set_option maxHeartbeats 1000000 in
theorem class167_8 (c : Nat) (hc : c < 256) (ha : 123 ≤ c) (w : World) : Calls Tryz.prog 167 #[.int .u8 c] w fun e w' => ClsE c e ∧ w = w' := by
 have g0 : decide ((97 : Int) ≤ c) = true := by simp; omega
 have g1 : decide ((c : Int) ≤ 122) = false := by simp; omega
 have g2 : decide ((65 : Int) ≤ c) = true := by simp; omega
 have g3 : decide ((c : Int) ≤ 90) = false := by simp; omega
 have g4 : decide ((48 : Int) ≤ c) = true := by simp; omega
 have g5 : decide ((c : Int) ≤ 57) = false := by simp; omega
 have g9 : ((c : Int) == 95) = false := by simp; omega
 have E := hide (show ∀ n : Int, (n = 0 ∨ n = 1 ∨ n = 4) → ClsE c (.returned (.int .i64 n)) from fun n hn => ⟨n, rfl, by simp [letB]; omega, by simp [digB]; omega, by omega⟩)
 clear hc ha 
 go_enter Tryz.func167, Tryz.ntmps167
 go_wp2_with (go_at_call 176; refine (sh_strings_IndexByte _ _ _).mono ?_; rintro e w1 ⟨rfl, rfl⟩)
 all_goals
  go_ret
  exact ⟨E.out _ (by omega), rfl⟩
theorem class167 (c : Nat) (hc : c < 256) (w : World) : Calls Tryz.prog 167 #[.int .u8 c] w fun e w' => ClsE c e ∧ w = w' := by
 by_cases h0 : c ≤ 47
 ·exact class167_0 c hc h0 w
 by_cases h1 : c ≤ 57
 ·exact class167_1 c hc (by omega) h1 w
 by_cases h2 : c ≤ 64
 ·exact class167_2 c hc (by omega) h2 w
 by_cases h3 : c ≤ 90
 ·exact class167_3 c hc (by omega) h3 w
 by_cases h4 : c ≤ 94
 ·exact class167_4 c hc (by omega) h4 w
 by_cases h5 : c ≤ 95
 ·exact class167_5 c hc (by omega) h5 w
 by_cases h6 : c ≤ 96
 ·exact class167_6 c hc (by omega) h6 w
 by_cases h7 : c ≤ 122
 ·exact class167_7 c hc (by omega) h7 w
 exact class167_8 c hc (by omega) w
end Go.Proofs.YtkfdafeonhnloaaGreatDoor
namespace Go.Mine.C
def rest (s : ByteArray) (k : Nat) : Bool := (s.data.toList.drop k).all fun b => nmB b.toNat
theorem rest_cons {s : ByteArray} {k : Nat} (h : k < s.size) : rest s k = (nmB s[k].toNat && rest s (k + 1)) := by
  unfold rest
  have hl : k < s.data.toList.length := by simpa using h
  rw [List.drop_eq_getElem_cons hl, List.all_cons]
  rfl
theorem rest_end {s : ByteArray} {k : Nat} (h : s.size ≤ k) : rest s k = true := by
  unfold rest
  rw [List.drop_of_length_le (by simpa using h)]; rfl
theorem nameB_eq {s : ByteArray} (h0 : 0 < s.size) (h1 : s.size ≤ 32) : nameB s = (letB s[0].toNat && rest s 0) := by
  unfold nameB rest
  rw [decide_eq_true h0, decide_eq_true h1]
  have : s.get! 0 = s[0] := by
    show s.data[0]! = s.data[0]
    rw [getElem!_pos s.data 0 (by simpa using h0)]
  rw [this]
  simp
theorem cls_dec {c : Nat} {e : Ending} (h : ClsE c e) : ∃ n : Int, e = .returned (.int .i64 n) ∧ (n == 2) = letB c ∧ (n == 3) = digB c ∧ (n == 5) = decide (c = 95) := by
  obtain ⟨n, rfl, h2, h3, h5⟩ := h
  refine ⟨n, rfl, ?_, ?_, ?_⟩
  · rw [Bool.eq_iff_iff]; simpa using h2
  · rw [Bool.eq_iff_iff]; simpa using h3
  · rw [Bool.eq_iff_iff]; simpa using h5
end Go.Mine.C
namespace Go.Proofs.YtkfdafeonhnloaaGreatDoor
open Go.RowKit Go.Mine Go.Mine.C
set_option maxHeartbeats 1000000 in
theorem name138 (s : ByteArray) (w : World) : Calls Tryz.prog 138 #[.string s] w fun e w' => e = .returned (.bool (nameB s)) ∧ w = w' := by
  by_cases h0 : s.size = 0
  · have e : nameB s = false := by unfold nameB; rw [h0]; rfl
    obtain rfl : s = ByteArray.empty := by
      have : s.data = #[] := Array.eq_empty_of_size_eq_zero h0
      cases s; simp_all [ByteArray.empty, ByteArray.emptyWithCapacity]
    rw [e]
    clear e h0
    go_enter Tryz.func138, Tryz.ntmps138
    go_wp2
    go_ret
    exact ⟨rfl, rfl⟩
  · have hne : s.toList.isEmpty = false := by
      rw [Lib.toList_data]
      cases h : s.data.toList with
      | nil => exact absurd (by rw [Lib.size_eq, h]; rfl) h0
      | cons _ _ => rfl
    by_cases h1 : 32 < s.size
    · have e : nameB s = false := by unfold nameB; rw [decide_eq_false (show ¬ s.size ≤ 32 by omega)]; simp
      have g1 : decide ((32 : Int) < s.size) = true := by simp; omega
      rw [e]
      clear e h0
      go_enter Tryz.func138, Tryz.ntmps138
      go_wp2
      go_ret
      exact ⟨rfl, rfl⟩
    · have hpos : 0 < s.size := by omega
      have hposI : (0 : Int) < s.size := by omega
      have g1 : decide ((32 : Int) < s.size) = false := by simp; omega
      have hnm := hide (nameB_eq hpos (by omega))
      have h32 : s.size ≤ 32 := by omega
      have K0 := hide ((class167 (s[0]).toNat (s[0]).toNat_lt w).mono (R' := fun e w' => (∃ n : Int, e = .returned (.int .i64 n) ∧ (n == 2) = letB s[0].toNat) ∧ w = w') fun e w' h => ⟨by obtain ⟨n, h1, h2, _⟩ := cls_dec h.1; exact ⟨n, h1, h2⟩, h.2⟩)
      clear h0 h1
      generalize nameB s = R at *
      cases hl : letB s[0].toNat
      · rw [hl] at K0
        have H := hide (show R = false by rw [hnm.out, hl]; rfl)
        clear hl hnm
        go_enter Tryz.func138, Tryz.ntmps138
        go_wp2_with fail
        refine K0.out.mono ?_
        rintro e w1 ⟨⟨n, rfl, hn⟩, rfl⟩
        have hn' : (n != 2) = true := by rw [bne, hn]; rfl
        go_wp2
        go_ret
        exact ⟨ret_bool H.out.symm, rfl⟩
      · rw [hl] at K0
        have H := hide (show R = rest s 0 by rw [hnm.out, hl]; rfl)
        clear hl hnm
        go_enter Tryz.func138, Tryz.ntmps138
        go_wp2_with fail
        refine K0.out.mono ?_
        rintro e w1 ⟨⟨n, rfl, hn⟩, rfl⟩
        have hn' : (n != 2) = false := by rw [bne, hn]; rfl
        go_wp2
        clear hn hn' K0 hposI g1
        go_loop [20] (fun i => ∃ k : Nat, k ≤ s.size ∧ i = .int .i64 k ∧ R = rest s k) (fun i => s.size - (nI i).toNat)
        case atStart => exact ⟨0, Nat.zero_le _, rfl, H.out⟩
        case round =>
          obtain ⟨k, hk, rfl, hq⟩ := hrel
          by_cases hlt : k < s.size
          · rw [rest_cons hlt] at hq
            have K1 := hide ((class167 (s[k]).toNat (s[k]).toNat_lt w).mono (R' := fun e w' => (∃ n : Int, e = .returned (.int .i64 n) ∧ (n == 2) = letB s[k].toNat ∧ (n == 3) = digB s[k].toNat ∧ (n == 5) = decide (s[k].toNat = 95)) ∧ w = w') fun e w' h => ⟨cls_dec h.1, h.2⟩)
            unfold nmB at hq
            generalize letB s[k].toNat = p2 at hq K1
            generalize digB s[k].toNat = p3 at hq K1
            generalize decide (s[k].toNat = 95) = p5 at hq K1
            have HQ := hide hq
            clear hq H
            cases p2 <;> cases p3 <;> cases p5
            all_goals
              go_wp2_with fail
              refine K1.out.mono ?_
              rintro e w1 ⟨⟨n, rfl, h2, h3, h5⟩, rfl⟩
              have h2' : (n != 2) = !(n == 2) := rfl
              have h3' : (n != 3) = !(n == 3) := rfl
              have h5' : (n != 5) = !(n == 5) := rfl
              rw [h2] at h2'
              rw [h3] at h3'
              rw [h5] at h5'
              clear h2 h3 h5
              go_wp2
              first
                | (go_ret
                   exact ⟨ret_bool (by rw [HQ.out]; rfl), rfl⟩)
                | (go_round
                   case rel => exact ⟨k + 1, by omega, by go_num, by rw [HQ.out]; simp⟩
                   case measure => simp [nI]; omega)
          · have HQ := hide (hq.trans (rest_end (by omega)))
            clear hq H
            go_wp2
            go_ret
            exact ⟨ret_bool HQ.out.symm, rfl⟩
end Go.Proofs.YtkfdafeonhnloaaGreatDoor
