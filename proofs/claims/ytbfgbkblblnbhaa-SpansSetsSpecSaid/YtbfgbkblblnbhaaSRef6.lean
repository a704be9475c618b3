/-
  hansardref13.result: the reference's union, meet and minus.
-/
import Derived.Test.YtbfgbkblblnbhaaSRef4
namespace Go.Proofs.Ytbfgbkblblnbhaa
open Go.RowKit Go.Mine Go.Mine.H Go.Mine.S

theorem uniR_is' {f : Bool → Bool → Bool} {a b : List Sp} (za : chkS a = 0) (zb : chkS b = 0) : uniR f a b = uni f a b ∧ errS a b = 0 := by
  have : errS a b = 0 := by unfold errS; rw [if_pos za, zb]
  exact ⟨by unfold uniR; rw [if_pos this], this⟩
theorem uniR_bad' {f : Bool → Bool → Bool} {a b : List Sp} (h : errS a b ≠ 0) : uniR f a b = [] := by unfold uniR; rw [if_neg h]
theorem ref_next {f : Bool → Bool → Bool} {a b out : List Sp} {L : List Int} {k : Nat} {x y : Int} (hx : L[k]? = some x) (hy : L[k + 1]? = some y) :
    refGo f a b out (L.drop k) = refGo f a b (if f (inL a x) (inL b x) = true then addL out (x, y) else out) (L.drop (k + 1)) := by
  rw [drop_of_get hx, drop_of_get hy, refGo]
theorem ref_end {f : Bool → Bool → Bool} {a b out : List Sp} {L : List Int} {k : Nat} (h : L.length ≤ k + 1) : refGo f a b out (L.drop k) = out := by
  have hl : (L.drop k).length ≤ 1 := by simp; omega
  match hd : L.drop k, hl with
  | [], _ => rfl
  | [_], _ => rfl
  | _ :: _ :: _, hl => simp at hl

set_option maxHeartbeats 4000000 in
theorem result67_good (A A' : Option Addr) (c c' : Nat) (a b : List Sp) (n : Int) (f : Bool → Bool → Bool) (w : World) (hSa : Sl bc 2 w A c a) (hSb : Sl bc 2 w A' c' b)
    (hk : n = 1 ∧ f = fOr ∨ n = 2 ∧ f = fAnd ∨ n = 3 ∧ f = fNot) (za : chkS a = 0) (zb : chkS b = 0) (hl : a.length + b.length ≤ 4096) :
    Calls Try.prog 67 #[.slice A a.length c, .slice A' b.length c', .int .i64 n] w fun e w' => ∃ A2 c2, e = .returned (.tuple #[.slice A2 (uni f a b).length c2, .int .i64 0]) ∧ Sl bc 2 w' A2 c2 (uni f a b) ∧ Below w.heap.size w w' := by
  have hf : f false false = false := by rcases hk with ⟨_, rfl⟩ | ⟨_, rfl⟩ | ⟨_, rfl⟩ <;> rfl
  have E := hide (refU_eq hf (chkS_good za).1 (chkS_good zb).1)
  have hul := uni_length (f := f) (a := a) (b := b)
  have K73 := hide (fun w (hSa : Sl bc 2 w A c a) (hSb : Sl bc 2 w A' c' b) => both_any A A' c c' a b w hSa hSb)
  rw [(uniR_is' (f := f) za zb).2] at K73
  have K74 := hide (fun w (hSa : Sl bc 2 w A c a) (hSb : Sl bc 2 w A' c' b) => borders_any A A' c c' a b w hSa hSb (by omega) (by omega))
  have KA := hide (fun t w (hSa : Sl bc 2 w A c a) => refIn_any A c a t w hSa)
  have KB := hide (fun t w (hSb : Sl bc 2 w A' c' b) => refIn_any A' c' b t w hSb)
  have K75 := hide (fun base v l x1 x2 w hO hb hl => add_any base v l x1 x2 w hO hb hl)
  have hLl : (bordL (bordL [] a) b).length ≤ 8192 := by
    have h1 := bordL_length b (bordL [] a)
    have h2 := bordL_length a []
    simp only [List.length_nil] at h2
    omega
  have EU := hide (show refU f a b = refGo f a b [] (bordL (bordL [] a) b) from rfl)
  generalize bordL (bordL [] a) b = L at K74 hLl EU
  generalize uni f a b = U at E hul ⊢
  have hla := hSa.le
  have hlb := hSb.le
  have hca := hSa.max
  have hcb := hSb.max
  clear za zb hf
  go_enter Try.func67, Try.ntmps67
  go_wp2_with fail
  refine (K73.out _ hSa hSb).mono ?_
  rintro e w1 ⟨rfl, hb⟩
  have hB1 := hb
  replace hSa := hSa.bel hb
  replace hSb := hSb.bel hb
  clear hb
  go_wp2_with fail
  refine (K74.out _ hSa hSb).mono ?_
  rintro e w2 ⟨A3, c3, rfl, hL, hb⟩
  have hB2 := hide (kcall hB1 hb)
  have hN2 := hb.size
  replace hSa := hide (hSa.bel hb)
  replace hSb := hide (hSb.bel hb)
  have hL1 := hL.le
  have hL2 := hL.max
  clear hb hB1
  go_wp2
  go_loopw [10, 11] (fun v i wr => ∃ (j : Nat) (out : List Sp), i = .int .i64 j ∧ j ≤ L.length ∧ out.length ≤ j ∧ refGo f a b out (L.drop j) = U ∧ OwnL bc 2 62 wr w2.heap.size v out ∧ Below w2.heap.size w2 wr) (fun _ i _ => L.length - (intOf i).toNat)
  case atStart => exact ⟨0, [], rfl, by omega, by simp, by rw [List.drop_zero, ← EU.out, E.out], OwnL.fresh w2 (Nat.le_refl _), kalloc (Below.refl _ _) _⟩
  case round =>
    obtain ⟨j, out, rfl, hj, ho, hq, hO, hb⟩ := hrel
    have hN := hb.size
    by_cases hlt : j + 1 < L.length
    · have hne : L ≠ [] := by rintro rfl; simp at hlt
      have hx : L[j]? = some L[j] := List.getElem?_eq_getElem (by omega)
      have hy : L[j + 1]? = some L[j + 1] := List.getElem?_eq_getElem hlt
      generalize L[j] = x at hx
      generalize L[j + 1] = y at hy
      obtain ⟨bb, off, rfl, hbw, hget⟩ := Sl.addr hL hne
      have f1 := (hb.cell (p := ⟨bb, _, none⟩) hbw).trans (hget j x hx 0 (.int .i64 x) rfl)
      have f2 := (hb.cell (p := ⟨bb, _, none⟩) hbw).trans (hget (j + 1) y hy 0 (.int .i64 y) rfl)
      simp only [Nat.mul_one, Nat.add_zero] at f1 f2
      have hbr : bb < wr.heap.size := Nat.lt_of_lt_of_le hbw hN
      rw [ref_next hx hy] at hq
      replace KA := hide (KA.out x wr (hSa.out.bel hb))
      replace KB := hide (KB.out x wr (hSb.out.bel hb))
      have HO := hide hO
      have wj : IntKind.i64.wrap ((j : Int) + 1) = (j : Int) + 1 := IntWalk.i64_in _ (by omega)
      have tj : ((j : Int) + 1).toNat = j + 1 := by omega
      have hlo := addL_length out (x, y)
      have k1 : (0 : Int) ≤ (j : Int) := by omega
      have k2 : (j : Int) < (L.length : Int) := by omega
      have k3 : (j : Int) + 1 < (L.length : Int) := by omega
      have k4 : (0 : Int) ≤ (j : Int) + 1 := by omega
      generalize inL a x = ra at KA hq
      generalize inL b x = rb at KB hq
      clear hx hy hget hne hO hL
      cases hfab : f ra rb
      · rw [hfab] at hq
        simp only [Bool.false_eq_true, if_false] at hq
        replace hq := hide hq
        rcases hk with ⟨rfl, rfl⟩ | ⟨rfl, rfl⟩ | ⟨rfl, rfl⟩ <;> cases ra <;> cases rb <;> first | (exfalso; revert hfab; decide) | skip
        all_goals
          clear hfab
          go_wp2_with fail
          refine (KA.out).mono ?_
          rintro e w' ⟨rfl, rfl⟩
          go_wp2_with fail
          refine (KB.out).mono ?_
          rintro e w' ⟨rfl, rfl⟩
          go_wp2_with fail
          go_roundw
          case rel => exact ⟨j + 1, out, by go_num, by omega, by omega, hq.out, HO.out, hb⟩
          case measure => simp [intOf]; omega
      · rw [hfab] at hq
        simp only [if_true] at hq
        replace hq := hide hq
        rcases hk with ⟨rfl, rfl⟩ | ⟨rfl, rfl⟩ | ⟨rfl, rfl⟩ <;> cases ra <;> cases rb <;> first | (exfalso; revert hfab; decide) | skip
        all_goals
          clear hfab
          go_wp2_with fail
          refine (KA.out).mono ?_
          rintro e w' ⟨rfl, rfl⟩
          go_wp2_with fail
          refine (KB.out).mono ?_
          rintro e w' ⟨rfl, rfl⟩
          go_wp2_with fail
          go_region_held3 (fun w' => w'.cell? ⟨bb, off + j, none⟩ = some (.int .i64 x) ∧ w'.cell? ⟨bb, off + (j + 1), none⟩ = some (.int .i64 y))
            (first | exact ⟨f1, f2⟩ | exact ⟨g1, g2⟩)
            (first | (go_at_call 75; refine (K75.out w2.heap.size _ out x y _ HO.out.drew hN (by omega)).mono ?_; rintro e w5 ⟨v5, rfl, hO5, hb5⟩; have g1 := (hb5.cell (p := ⟨bb, off + j, none⟩) hbw).trans f1; have g2 := (hb5.cell (p := ⟨bb, off + (j + 1), none⟩) hbw).trans f2))
          replace hO5 := hide hO5
          replace hb5 := hb.drew.trans hb5
          go_wp2
          go_roundw
          case rel => exact ⟨j + 1, addL out (x, y), by go_num, by omega, by omega, hq.out, hO5.out, hb5⟩
          case measure => simp [intOf]; omega
    · rw [ref_end (by omega)] at hq
      subst hq
      obtain ⟨A4, c4, rfl, hS4⟩ := hO.sl
      have hB := hide (kcall hB2.out hb)
      replace hS4 := hide hS4
      have g4 : decide ((4096 : Int) < out.length) = false := by simp; omega
      have wj : IntKind.i64.wrap ((j : Int) + 1) = (j : Int) + 1 := IntWalk.i64_in _ (by omega)
      clear hO hSa hSb KA KB K75 hL E EU hul
      go_wp2
      go_ret2
      exact ⟨A4, c4, rfl, hS4.out, hB.out⟩
theorem result67_bad (A A' : Option Addr) (c c' : Nat) (a b : List Sp) (n : Int) (w : World) (hSa : Sl bc 2 w A c a) (hSb : Sl bc 2 w A' c' b) (hz : errS a b ≠ 0) :
    Calls Try.prog 67 #[.slice A a.length c, .slice A' b.length c', .int .i64 n] w fun e w' => e = .returned (.tuple #[.slice none 0 0, .int .i64 (errS a b)]) ∧ Below w.heap.size w w' := by
  have K73 := hide (both_any A A' c c' a b w hSa hSb)
  generalize errS a b = e0 at K73 hz ⊢
  go_enter Try.func67, Try.ntmps67
  go_wp2_with fail
  refine (K73.out).mono ?_
  rintro e w1 ⟨rfl, hb⟩
  go_wp2
  go_ret2
  exact ⟨rfl, hb⟩
theorem result67_any (A A' : Option Addr) (c c' : Nat) (a b : List Sp) (n : Int) (f : Bool → Bool → Bool) (w : World) (hSa : Sl bc 2 w A c a) (hSb : Sl bc 2 w A' c' b)
    (hk : n = 1 ∧ f = fOr ∨ n = 2 ∧ f = fAnd ∨ n = 3 ∧ f = fNot) (hl : errS a b = 0 → a.length + b.length ≤ 4096) :
    Calls Try.prog 67 #[.slice A a.length c, .slice A' b.length c', .int .i64 n] w fun e w' => ∃ A2 c2, e = .returned (.tuple #[.slice A2 (uniR f a b).length c2, .int .i64 (errS a b)]) ∧ Sl bc 2 w' A2 c2 (uniR f a b) ∧ Below w.heap.size w w' := by
  by_cases hz : errS a b = 0
  · obtain ⟨za, zb⟩ := errS_zero hz
    rw [(uniR_is' (f := f) za zb).1, hz]
    exact result67_good A A' c c' a b n f w hSa hSb hk za zb (hl hz)
  · rw [uniR_bad' hz]
    refine (result67_bad A A' c c' a b n w hSa hSb hz).mono ?_
    rintro e w' ⟨rfl, hb⟩
    exact ⟨none, 0, rfl, Sl.nil (by omega), hb⟩
theorem ref38_any (A A' : Option Addr) (c c' : Nat) (a b : List Sp) (w : World) (hSa : Sl bc 2 w A c a) (hSb : Sl bc 2 w A' c' b) (hl : errS a b = 0 → a.length + b.length ≤ 4096) :
    Calls Try.prog 38 #[.slice A a.length c, .slice A' b.length c'] w fun e w' => ∃ A2 c2, e = .returned (.tuple #[.slice A2 (uniR fOr a b).length c2, .int .i64 (errS a b)]) ∧ Sl bc 2 w' A2 c2 (uniR fOr a b) ∧ Below w.heap.size w w' := by
  have K := hide (result67_any A A' c c' a b 1 fOr w hSa hSb (by simp) hl)
  go_enter Try.func38, Try.ntmps38
  go_wp2_with fail
  refine (K.out).mono ?_
  rintro e w1 ⟨A2, c2, rfl, hS, hb⟩
  replace hS := hide hS
  replace hb := hide hb
  go_wp2
  go_ret2
  exact ⟨A2, c2, rfl, hS.out, hb.out⟩
theorem ref40_any (A A' : Option Addr) (c c' : Nat) (a b : List Sp) (w : World) (hSa : Sl bc 2 w A c a) (hSb : Sl bc 2 w A' c' b) (hl : errS a b = 0 → a.length + b.length ≤ 4096) :
    Calls Try.prog 40 #[.slice A a.length c, .slice A' b.length c'] w fun e w' => ∃ A2 c2, e = .returned (.tuple #[.slice A2 (uniR fAnd a b).length c2, .int .i64 (errS a b)]) ∧ Sl bc 2 w' A2 c2 (uniR fAnd a b) ∧ Below w.heap.size w w' := by
  have K := hide (result67_any A A' c c' a b 2 fAnd w hSa hSb (by simp) hl)
  go_enter Try.func40, Try.ntmps40
  go_wp2_with fail
  refine (K.out).mono ?_
  rintro e w1 ⟨A2, c2, rfl, hS, hb⟩
  replace hS := hide hS
  replace hb := hide hb
  go_wp2
  go_ret2
  exact ⟨A2, c2, rfl, hS.out, hb.out⟩
theorem ref42_any (A A' : Option Addr) (c c' : Nat) (a b : List Sp) (w : World) (hSa : Sl bc 2 w A c a) (hSb : Sl bc 2 w A' c' b) (hl : errS a b = 0 → a.length + b.length ≤ 4096) :
    Calls Try.prog 42 #[.slice A a.length c, .slice A' b.length c'] w fun e w' => ∃ A2 c2, e = .returned (.tuple #[.slice A2 (uniR fNot a b).length c2, .int .i64 (errS a b)]) ∧ Sl bc 2 w' A2 c2 (uniR fNot a b) ∧ Below w.heap.size w w' := by
  have K := hide (result67_any A A' c c' a b 3 fNot w hSa hSb (by simp) hl)
  go_enter Try.func42, Try.ntmps42
  go_wp2_with fail
  refine (K.out).mono ?_
  rintro e w1 ⟨A2, c2, rfl, hS, hb⟩
  replace hS := hide hS
  replace hb := hide hb
  go_wp2
  go_ret2
  exact ⟨A2, c2, rfl, hS.out, hb.out⟩
end Go.Proofs.Ytbfgbkblblnbhaa
