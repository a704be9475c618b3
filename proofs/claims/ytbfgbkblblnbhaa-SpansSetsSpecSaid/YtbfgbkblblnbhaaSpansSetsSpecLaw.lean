/-
  SpansSetsSpec: its walk: true, whatever the input.
-/
import Derived.Test.YtbfgbkblblnbhaaSRef6
import Derived.Test.YtbfgbkblblnbhaaS13Sane
namespace Go.Proofs.Ytbfgbkblblnbhaa
open Go.RowKit Go.Mine Go.Mine.H Go.Mine.S

theorem few_len {a b : List Sp} (ha : few13 a = true) (hb : few13 b = true) (hz : errS a b = 0) : a.length + b.length ≤ 4096 := by
  obtain ⟨za, zb⟩ := errS_zero hz
  have h1 := (chkS_good za).2
  have h2 := (chkS_good zb).2
  simp [few13] at ha hb
  omega

set_option maxRecDepth 100000 in
set_option maxHeartbeats 4000000 in
theorem spansSetsSpec_law (A A2 : Option Addr) (c c2 : Nat) (a b : List Sp) (w : World) (hSa : Sl bc 2 w A c a) (hSb : Sl bc 2 w A2 c2 b) :
    Calls Try.prog 9 #[.slice A a.length c, .slice A2 b.length c2] w fun e w' => e = .returned (.bool true) ∧ Below w.heap.size w w' := by
  have K29 := hide sane13_any
  have Fa := hide (fun w (hS : Sl bc 2 w A c a) => few13_any A c a w hS)
  have Fb := hide (fun w (hS : Sl bc 2 w A2 c2 b) => few13_any A2 c2 b w hS)
  have hla := hSa.le
  have hlb := hSb.le
  have hca := hSa.max
  have hcb := hSb.max
  have hB0 := Below.refl w.heap.size w
  cases ha : few13 a
  · rw [ha] at Fa
    go_enter Try.func9, Try.ntmps9
    go_wp2_with fail
    refine (K29.out _).mono ?_
    rintro e w1 ⟨rfl, hb⟩
    have hB1 := kcall hB0 hb
    replace hSa := hSa.bel hb
    replace hSb := hSb.bel hb
    clear hb hB0
    go_wp2_with fail
    refine (Fa.out _ hSa).mono ?_
    rintro e w' ⟨rfl, rfl⟩
    go_wp2
    go_ret
    exact ⟨rfl, hB1⟩
  rw [ha] at Fa
  cases hb' : few13 b
  · rw [hb'] at Fb
    go_enter Try.func9, Try.ntmps9
    go_wp2_with fail
    refine (K29.out _).mono ?_
    rintro e w1 ⟨rfl, hb⟩
    have hB1 := kcall hB0 hb
    replace hSa := hSa.bel hb
    replace hSb := hSb.bel hb
    clear hb hB0
    go_wp2_with fail
    refine (Fa.out _ hSa).mono ?_
    rintro e w' ⟨rfl, rfl⟩
    go_wp2_with fail
    refine (Fb.out _ hSb).mono ?_
    rintro e w' ⟨rfl, rfl⟩
    go_wp2
    go_ret
    exact ⟨rfl, hB1⟩
  rw [hb'] at Fb
  have hl := few_len ha hb'
  have K37 := hide (fun w (hSa : Sl bc 2 w A c a) (hSb : Sl bc 2 w A2 c2 b) => s37_any A A2 c c2 a b w hSa hSb hl)
  have K38 := hide (fun w (hSa : Sl bc 2 w A c a) (hSb : Sl bc 2 w A2 c2 b) => ref38_any A A2 c c2 a b w hSa hSb hl)
  have K39 := hide (fun w (hSa : Sl bc 2 w A c a) (hSb : Sl bc 2 w A2 c2 b) => s39_any A A2 c c2 a b w hSa hSb hl)
  have K40 := hide (fun w (hSa : Sl bc 2 w A c a) (hSb : Sl bc 2 w A2 c2 b) => ref40_any A A2 c c2 a b w hSa hSb hl)
  have K41 := hide (fun w (hSa : Sl bc 2 w A c a) (hSb : Sl bc 2 w A2 c2 b) => s41_any A A2 c c2 a b w hSa hSb hl)
  have K42 := hide (fun w (hSa : Sl bc 2 w A c a) (hSb : Sl bc 2 w A2 c2 b) => ref42_any A A2 c c2 a b w hSa hSb hl)
  have K43 := hide (fun A B c d l w (h : Sl bc 2 w A c l) (h' : Sl bc 2 w B d l) => sSame_any A B c d l l w h h')
  generalize uniR fOr a b = u at K37 K38
  generalize uniR fAnd a b = m at K39 K40
  generalize uniR fNot a b = d at K41 K42
  generalize errS a b = e0 at K37 K38 K39 K40 K41 K42 hl
  clear hl ha hb'
  simp only [decide_true] at K43
  go_enter Try.func9, Try.ntmps9
  go_wp2_with fail
  refine (K29.out _).mono ?_
  rintro e w1 ⟨rfl, hb⟩
  have hB1 := kcall hB0 hb
  replace hSa := hSa.bel hb
  replace hSb := hSb.bel hb
  clear hb hB0
  go_wp2_with fail
  refine (Fa.out _ hSa).mono ?_
  rintro e w' ⟨rfl, rfl⟩
  go_wp2_with fail
  refine (Fb.out _ hSb).mono ?_
  rintro e w' ⟨rfl, rfl⟩
  go_wp2_with fail
  refine (K37.out _ hSa hSb).mono ?_
  rintro e w2 ⟨Au, cu, rfl, hu, hb⟩
  have hB2 := kcall hB1 hb
  replace hSa := hSa.bel hb
  replace hSb := hSb.bel hb
  clear hb hB1
  go_wp2_with fail
  refine (K38.out _ hSa hSb).mono ?_
  rintro e w3 ⟨Aur, cur, rfl, hur, hb⟩
  have hB3 := kcall hB2 hb
  replace hSa := hSa.bel hb
  replace hSb := hSb.bel hb
  replace hu := hu.bel hb
  clear hb hB2
  go_wp2_with fail
  refine (K39.out _ hSa hSb).mono ?_
  rintro e w4 ⟨Am, cm, rfl, hm, hb⟩
  have hB4 := kcall hB3 hb
  replace hSa := hSa.bel hb
  replace hSb := hSb.bel hb
  replace hu := hu.bel hb
  replace hur := hur.bel hb
  clear hb hB3
  go_wp2_with fail
  refine (K40.out _ hSa hSb).mono ?_
  rintro e w5 ⟨Amr, cmr, rfl, hmr, hb⟩
  have hB5 := kcall hB4 hb
  replace hSa := hSa.bel hb
  replace hSb := hSb.bel hb
  replace hu := hu.bel hb
  replace hur := hur.bel hb
  replace hm := hm.bel hb
  clear hb hB4
  go_wp2_with fail
  refine (K41.out _ hSa hSb).mono ?_
  rintro e w6 ⟨Ad, cd, rfl, hd, hb⟩
  have hB6 := kcall hB5 hb
  replace hSa := hSa.bel hb
  replace hSb := hSb.bel hb
  replace hu := hu.bel hb
  replace hur := hur.bel hb
  replace hm := hm.bel hb
  replace hmr := hmr.bel hb
  clear hb hB5
  go_wp2_with fail
  refine (K42.out _ hSa hSb).mono ?_
  rintro e w7 ⟨Adr, cdr, rfl, hdr, hb⟩
  have hB7 := kcall hB6 hb
  replace hSa := hSa.bel hb
  replace hSb := hSb.bel hb
  replace hu := hu.bel hb
  replace hur := hur.bel hb
  replace hm := hm.bel hb
  replace hmr := hmr.bel hb
  replace hd := hd.bel hb
  clear hb hB6
  go_wp2_with fail
  refine (K43.out _ _ _ _ _ _ hu hur).mono ?_
  rintro e w8 ⟨rfl, hb⟩
  have hB8 := kcall hB7 hb
  replace hSa := hSa.bel hb
  replace hSb := hSb.bel hb
  replace hu := hu.bel hb
  replace hur := hur.bel hb
  replace hm := hm.bel hb
  replace hmr := hmr.bel hb
  replace hd := hd.bel hb
  replace hdr := hdr.bel hb
  clear hb hB7
  go_wp2_with fail
  refine (K43.out _ _ _ _ _ _ hm hmr).mono ?_
  rintro e w9 ⟨rfl, hb⟩
  have hB9 := kcall hB8 hb
  replace hSa := hSa.bel hb
  replace hSb := hSb.bel hb
  replace hu := hu.bel hb
  replace hur := hur.bel hb
  replace hm := hm.bel hb
  replace hmr := hmr.bel hb
  replace hd := hd.bel hb
  replace hdr := hdr.bel hb
  clear hb hB8
  go_wp2_with fail
  refine (K43.out _ _ _ _ _ _ hd hdr).mono ?_
  rintro e w10 ⟨rfl, hb⟩
  have hB10 := kcall hB9 hb
  replace hSa := hSa.bel hb
  replace hSb := hSb.bel hb
  replace hu := hu.bel hb
  replace hur := hur.bel hb
  replace hm := hm.bel hb
  replace hmr := hmr.bel hb
  replace hd := hd.bel hb
  replace hdr := hdr.bel hb
  clear hb hB9
  go_wp2
  go_ret
  exact ⟨rfl, hB10⟩
end Go.Proofs.Ytbfgbkblblnbhaa
