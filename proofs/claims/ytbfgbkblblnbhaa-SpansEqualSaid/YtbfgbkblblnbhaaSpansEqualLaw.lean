/-
  SpansEqual: its walk: true, whatever the input.
-/
import Derived.Test.YtbfgbkblblnbhaaSRight
import Derived.Test.YtbfgbkblblnbhaaSPure5
namespace Go.Proofs.Ytbfgbkblblnbhaa
open Go.RowKit Go.Mine Go.Mine.H Go.Mine.S

set_option maxHeartbeats 4000000 in
theorem spansEqual_law (A A2 : Option Addr) (c c2 : Nat) (a b : List Sp) (w : World) (hSa : Sl bc 2 w A c a) (hSb : Sl bc 2 w A2 c2 b) :
    Calls Try.prog 13 #[.slice A a.length c, .slice A2 b.length c2] w fun e w' => e = .returned (.bool true) ∧ Below w.heap.size w w' := by
  have K29 := hide sane13_any
  have K44 := hide (fun b2 w (hL : SlSl w b2 2 [a, b]) => right13_any b2 2 [a, b] w hL (by simp))
  have hla := hSa.le
  have hlb := hSb.le
  have hca := hSa.max
  have hcb := hSb.max
  have hB0 := Below.refl w.heap.size w
  cases hr : [a, b].all rgt
  · rw [hr] at K44
    clear hr
    go_enter Try.func13, Try.ntmps13
    go_wp2_with fail
    refine (K29.out _).mono ?_
    rintro e w1 ⟨rfl, hb⟩
    have hB1 := kcall hB0 hb
    replace hSa := hSa.bel hb
    replace hSb := hSb.bel hb
    clear hb
    go_wp2_with fail
    refine (K44.out _ _ (slsl_two (Blk.new _ _ 30) (hSa.alloc _) (hSb.alloc _))).mono ?_
    rintro e w2 ⟨rfl, hb⟩
    have hB2 := kcall (kalloc hB1 _) hb
    clear hb
    go_wp2
    go_ret
    exact ⟨rfl, hB2⟩
  rw [hr] at K44
  obtain ⟨l1, l2, za, zb⟩ := rgt_two hr
  have ga := (chkS_good za).1
  have gb := (chkS_good zb).1
  clear hr
  have hl : a.length + b.length ≤ 4096 := by omega
  have K1 := hide (fun w (hSa : Sl bc 2 w A c a) (hSb : Sl bc 2 w A2 c2 b) => s41_any A A2 c c2 a b w hSa hSb (fun _ => hl))
  have K2 := hide (fun w (hSa : Sl bc 2 w A c a) (hSb : Sl bc 2 w A2 c2 b) => s41_any A2 A c2 c b a w hSb hSa (fun _ => by omega))
  have K3 := hide (fun w (hSa : Sl bc 2 w A c a) (hSb : Sl bc 2 w A2 c2 b) => sSame_any A A2 c c2 a b w hSa hSb)
  rw [(uniR_is (f := fNot) za zb).1, (uniR_is (f := fNot) za zb).2] at K1
  rw [(uniR_is (f := fNot) zb za).1, (uniR_is (f := fNot) zb za).2] at K2
  have n1 := uni_length (f := fNot) (a := a) (b := b)
  have n2 := uni_length (f := fNot) (a := b) (b := a)
  by_cases hab : a = b
  · rw [decide_eq_true hab] at K3
    rw [show uni fNot a b = [] by rw [hab]; exact not_self gb] at K1
    rw [show uni fNot b a = [] by rw [hab]; exact not_self gb] at K2
    clear ga gb za zb hab n1 n2
    go_enter Try.func13, Try.ntmps13
    go_wp2_with fail
    refine (K29.out _).mono ?_
    rintro e w1 ⟨rfl, hb⟩
    have hB1 := kcall hB0 hb
    replace hSa := hSa.bel hb
    replace hSb := hSb.bel hb
    clear hb hB0
    go_wp2_with fail
    refine (K44.out _ _ (slsl_two (Blk.new _ _ 30) (hSa.alloc _) (hSb.alloc _))).mono ?_
    rintro e w2 ⟨rfl, hb⟩
    have hB2 := kcall (kalloc hB1 _) hb
    replace hSa := (hSa.alloc _).bel hb
    replace hSb := (hSb.alloc _).bel hb
    clear hb hB1
    go_wp2_with fail
    refine (K1.out _ hSa hSb).mono ?_
    rintro e w3 ⟨A3, c3, rfl, -, hb⟩
    have hB3 := kcall hB2 hb
    replace hSa := hSa.bel hb
    replace hSb := hSb.bel hb
    clear hb hB2
    go_wp2_with fail
    refine (K2.out _ hSa hSb).mono ?_
    rintro e w4 ⟨A4, c4, rfl, -, hb⟩
    have hB4 := kcall hB3 hb
    replace hSa := hSa.bel hb
    replace hSb := hSb.bel hb
    clear hb hB3
    go_wp2_with fail
    refine (K3.out _ hSa hSb).mono ?_
    rintro e w5 ⟨rfl, hb⟩
    have hB5 := kcall hB4 hb
    replace hSa := hSa.bel hb
    replace hSb := hSb.bel hb
    clear hb hB4
    go_wp2
    go_ret
    exact ⟨rfl, hB5⟩
  · rw [decide_eq_false hab] at K3
    have q := len_ne ga gb hab
    generalize uni fNot a b = x at K1 n1 q
    generalize uni fNot b a = y at K2 n2 q
    have q2 : IntKind.i64.wrap ((x.length : Int) + (y.length : Int)) = (x.length : Int) + (y.length : Int) := IntWalk.i64_in _ (by omega)
    have q3 : (((x.length : Int) + (y.length : Int)) == 0) = false := by simp; omega
    clear ga gb za zb hab q
    go_enter Try.func13, Try.ntmps13
    go_wp2_with fail
    refine (K29.out _).mono ?_
    rintro e w1 ⟨rfl, hb⟩
    have hB1 := kcall hB0 hb
    replace hSa := hSa.bel hb
    replace hSb := hSb.bel hb
    clear hb hB0
    go_wp2_with fail
    refine (K44.out _ _ (slsl_two (Blk.new _ _ 30) (hSa.alloc _) (hSb.alloc _))).mono ?_
    rintro e w2 ⟨rfl, hb⟩
    have hB2 := kcall (kalloc hB1 _) hb
    replace hSa := (hSa.alloc _).bel hb
    replace hSb := (hSb.alloc _).bel hb
    clear hb hB1
    go_wp2_with fail
    refine (K1.out _ hSa hSb).mono ?_
    rintro e w3 ⟨A3, c3, rfl, -, hb⟩
    have hB3 := kcall hB2 hb
    replace hSa := hSa.bel hb
    replace hSb := hSb.bel hb
    clear hb hB2
    go_wp2_with fail
    refine (K2.out _ hSa hSb).mono ?_
    rintro e w4 ⟨A4, c4, rfl, -, hb⟩
    have hB4 := kcall hB3 hb
    replace hSa := hSa.bel hb
    replace hSb := hSb.bel hb
    clear hb hB3
    go_wp2_with fail
    refine (K3.out _ hSa hSb).mono ?_
    rintro e w5 ⟨rfl, hb⟩
    have hB5 := kcall hB4 hb
    replace hSa := hSa.bel hb
    replace hSb := hSb.bel hb
    clear hb hB4
    go_wp2
    go_ret
    exact ⟨rfl, hB5⟩
end Go.Proofs.Ytbfgbkblblnbhaa
