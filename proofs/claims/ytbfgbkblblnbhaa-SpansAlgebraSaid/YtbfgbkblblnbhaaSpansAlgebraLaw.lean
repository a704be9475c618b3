/-
  SpansAlgebra: its walk: true, whatever the input.
-/
import Derived.Test.YtbfgbkblblnbhaaSRight
import Derived.Test.YtbfgbkblblnbhaaSPure5
namespace Go.Proofs.Ytbfgbkblblnbhaa
open Go.RowKit Go.Mine Go.Mine.H Go.Mine.S

theorem same_cell {w : World} {p : Nat} {v : Value} {t : TypeId} {z : Nat × Nat} (h : w.heap[p]? = some (.cells #[v] t z)) : w.setCell ⟨p, 0, none⟩ v = w := by
  have e : (w.setCell ⟨p, 0, none⟩ v).heap = w.heap := by
    apply Array.ext_getElem?
    intro i
    by_cases hi : i = p
    · subst hi; simp [World.setCell, Array.getElem?_modify, h]
    · exact Below.heap_setCell _ _ _ _ hi
  unfold World.setCell at e ⊢
  cases w
  simpa using e
set_option maxHeartbeats 1000000 in
/-- the closure, as long as its box says true -/
theorem clo45_any (v : Value) (p : Nat) (w : World) (h : Blk w p 4 #[.bool true]) : Calls Try.prog 45 #[v, .int .i64 0, .pointer (some ⟨p, 0, none⟩)] w fun e w' => e = .returned v ∧ w' = w := by
  have y0 := h.cell (v := .bool true) 0 rfl
  have z0 := h.thaw 0
  have l0 := h.lt
  have S := hide (same_cell h.at_)
  clear h
  go_enter Try.func45, Try.ntmps45
  go_wp2
  go_ret
  exact ⟨rfl, S.out⟩
def KU (F : Nat) (a b r : List Sp) : Prop := ∀ A A' c c' w, Sl bc 2 w A c a → Sl bc 2 w A' c' b → Calls Try.prog F #[.slice A a.length c, .slice A' b.length c'] w fun e w' => ∃ A2 c2, e = .returned (.tuple #[.slice A2 r.length c2, .int .i64 0]) ∧ Sl bc 2 w' A2 c2 r ∧ Below w.heap.size w w'
theorem ku37 {a b : List Sp} (ga : good (-1) a) (gb : good (-1) b) (hl : a.length + b.length ≤ 4096) : KU 37 a b (uni fOr a b) := by
  intro A A' c c' w h h'
  have za := chkS_of ga (by omega)
  have zb := chkS_of gb (by omega)
  have K := s37_any A A' c c' a b w h h' (fun _ => hl)
  rw [(uniR_is (f := fOr) za zb).1, (uniR_is (f := fOr) za zb).2] at K
  exact K
theorem ku39 {a b : List Sp} (ga : good (-1) a) (gb : good (-1) b) (hl : a.length + b.length ≤ 4096) : KU 39 a b (uni fAnd a b) := by
  intro A A' c c' w h h'
  have za := chkS_of ga (by omega)
  have zb := chkS_of gb (by omega)
  have K := s39_any A A' c c' a b w h h' (fun _ => hl)
  rw [(uniR_is (f := fAnd) za zb).1, (uniR_is (f := fAnd) za zb).2] at K
  exact K
theorem ku41 {a b : List Sp} (ga : good (-1) a) (gb : good (-1) b) (hl : a.length + b.length ≤ 4096) : KU 41 a b (uni fNot a b) := by
  intro A A' c c' w h h'
  have za := chkS_of ga (by omega)
  have zb := chkS_of gb (by omega)
  have K := s41_any A A' c c' a b w h h' (fun _ => hl)
  rw [(uniR_is (f := fNot) za zb).1, (uniR_is (f := fNot) za zb).2] at K
  exact K

theorem alg_lists {a b d : List Sp} (ga : good (-1) a) (gb : good (-1) b) (gd : good (-1) d) (la : a.length ≤ 30) (lb : b.length ≤ 30) (ld : d.length ≤ 30) :
    ∃ u m x3 x4 x6 x7 x9 x10 x13 x16, KU 37 a b u ∧ KU 39 a b m ∧ KU 37 b a u ∧ KU 39 b a m ∧ KU 37 u d x3 ∧ KU 37 b d x4 ∧ KU 37 a x4 x3 ∧ KU 39 m d x6 ∧ KU 39 b d x7 ∧ KU 39 a x7 x6 ∧
      KU 39 u d x9 ∧ KU 39 a d x10 ∧ KU 37 x10 x7 x9 ∧ KU 41 a b x13 ∧ KU 37 x13 b u ∧ KU 41 x13 d x16 ∧ KU 41 a x4 x16 ∧ KU 41 a a [] ∧ KU 37 a [] a := by
  have gu := uni_good (f := fOr) rfl ga gb
  have gm := uni_good (f := fAnd) rfl ga gb
  have g4 := uni_good (f := fOr) rfl gb gd
  have g7 := uni_good (f := fAnd) rfl gb gd
  have g10 := uni_good (f := fAnd) rfl ga gd
  have g13 := uni_good (f := fNot) rfl ga gb
  have lu := uni_length (f := fOr) (a := a) (b := b)
  have lm := uni_length (f := fAnd) (a := a) (b := b)
  have l4 := uni_length (f := fOr) (a := b) (b := d)
  have l7 := uni_length (f := fAnd) (a := b) (b := d)
  have l10 := uni_length (f := fAnd) (a := a) (b := d)
  have l13 := uni_length (f := fNot) (a := a) (b := b)
  have hn : good (-1) ([] : List Sp) := trivial
  have e1 : uni fOr b a = uni fOr a b := uni_same rfl rfl gb ga ga gb (fun t => by cases inL a t <;> cases inL b t <;> rfl)
  have e2 : uni fAnd b a = uni fAnd a b := uni_same rfl rfl gb ga ga gb (fun t => by cases inL a t <;> cases inL b t <;> rfl)
  have e3 : uni fOr a (uni fOr b d) = uni fOr (uni fOr a b) d := uni_same rfl rfl ga g4 gu gd (fun t => by rw [uni_in rfl gb gd, uni_in rfl ga gb]; cases inL a t <;> cases inL b t <;> cases inL d t <;> rfl)
  have e4 : uni fAnd a (uni fAnd b d) = uni fAnd (uni fAnd a b) d := uni_same rfl rfl ga g7 gm gd (fun t => by rw [uni_in rfl gb gd, uni_in rfl ga gb]; cases inL a t <;> cases inL b t <;> cases inL d t <;> rfl)
  have e5 : uni fOr (uni fAnd a d) (uni fAnd b d) = uni fAnd (uni fOr a b) d := uni_same rfl rfl g10 g7 gu gd (fun t => by rw [uni_in rfl ga gd, uni_in rfl gb gd, uni_in rfl ga gb]; cases inL a t <;> cases inL b t <;> cases inL d t <;> rfl)
  have e6 : uni fOr (uni fNot a b) b = uni fOr a b := uni_same rfl rfl g13 gb ga gb (fun t => by rw [uni_in rfl ga gb]; cases inL a t <;> cases inL b t <;> rfl)
  have e7 : uni fNot a (uni fOr b d) = uni fNot (uni fNot a b) d := uni_same rfl rfl ga g4 g13 gd (fun t => by rw [uni_in rfl gb gd, uni_in rfl ga gb]; cases inL a t <;> cases inL b t <;> cases inL d t <;> rfl)
  refine ⟨uni fOr a b, uni fAnd a b, uni fOr (uni fOr a b) d, uni fOr b d, uni fAnd (uni fAnd a b) d, uni fAnd b d, uni fAnd (uni fOr a b) d, uni fAnd a d, uni fNot a b, uni fNot (uni fNot a b) d,
    ku37 ga gb (by omega), ku39 ga gb (by omega), ?_, ?_, ku37 gu gd (by omega), ku37 gb gd (by omega), ?_, ku39 gm gd (by omega), ku39 gb gd (by omega), ?_, ku39 gu gd (by omega), ku39 ga gd (by omega), ?_, ku41 ga gb (by omega), ?_, ku41 g13 gd (by omega), ?_, ?_, ?_⟩
  · have k := ku37 gb ga (by omega); rwa [e1] at k
  · have k := ku39 gb ga (by omega); rwa [e2] at k
  · have k := ku37 ga g4 (by omega); rwa [e3] at k
  · have k := ku39 ga g7 (by omega); rwa [e4] at k
  · have k := ku37 g10 g7 (by omega); rwa [e5] at k
  · have k := ku37 g13 gb (by omega); rwa [e6] at k
  · have k := ku41 ga g4 (by omega); rwa [e7] at k
  · have k := ku41 ga ga (by omega); rwa [not_self ga] at k
  · have k := ku37 ga hn (by simp; omega); rwa [uni_nil ga] at k
theorem rgt_three {a b d : List Sp} (h : [a, b, d].all rgt = true) : (a.length ≤ 30 ∧ b.length ≤ 30 ∧ d.length ≤ 30) ∧ chkS a = 0 ∧ chkS b = 0 ∧ chkS d = 0 := by
  simp [rgt] at h; omega

set_option maxRecDepth 100000 in
set_option maxHeartbeats 8000000 in
theorem spansAlgebra_law (A A2 A3 : Option Addr) (c c2 c3 : Nat) (a b d : List Sp) (w : World) (hSa : Sl bc 2 w A c a) (hSb : Sl bc 2 w A2 c2 b) (hSd : Sl bc 2 w A3 c3 d) :
    Calls Try.prog 12 #[.slice A a.length c, .slice A2 b.length c2, .slice A3 d.length c3] w fun e w' => e = .returned (.bool true) ∧ Below w.heap.size w w' := by
  have K29 := hide sane13_any
  have K44 := hide (fun b2 w (hL : SlSl w b2 3 [a, b, d]) => right13_any b2 3 [a, b, d] w hL (by simp))
  have hla := hSa.le
  have hlb := hSb.le
  have hld := hSd.le
  have hca := hSa.max
  have hcb := hSb.max
  have hcd := hSd.max
  have hB0 := Below.refl w.heap.size w
  cases hr : [a, b, d].all rgt
  · rw [hr] at K44
    clear hr
    go_enter Try.func12, Try.ntmps12
    go_wp2_with fail
    refine (K29.out _).mono ?_
    rintro e w1 ⟨rfl, hb⟩
    have hB1 := kcall hB0 hb
    replace hSa := hSa.bel hb
    replace hSb := hSb.bel hb
    replace hSd := hSd.bel hb
    clear hb
    go_wp2_with fail
    refine (K44.out _ _ (slsl_3 (Blk.new _ _ 30) (hSa.alloc _) (hSb.alloc _) (hSd.alloc _))).mono ?_
    rintro e w2 ⟨rfl, hb⟩
    have hB2 := kcall (kalloc hB1 _) hb
    clear hb
    go_wp2
    go_ret
    exact ⟨rfl, hB2⟩
  rw [hr] at K44
  obtain ⟨⟨l1, l2, l3⟩, za, zb, zd⟩ := rgt_three hr
  clear hr
  obtain ⟨u, m, x3, x4, x6, x7, x9, x10, x13, x16, k1, k2, k3, k4, k5, k6, k7, k8, k9, k10, k11, k12, k13, k14, k15, k16, k17, k18, k19⟩ := alg_lists (chkS_good za).1 (chkS_good zb).1 (chkS_good zd).1 l1 l2 l3
  clear l1 l2 l3 za zb zd
  have K43 := hide (fun A B c d l w (h : Sl bc 2 w A c l) (h' : Sl bc 2 w B d l) => sSame_any A B c d l l w h h')
  have N0 : ∀ w : World, Sl bc 2 w none 0 ([] : List Sp) := fun w => Sl.nil (by omega)
  replace N0 := hide N0
  go_enter Try.func12, Try.ntmps12
  go_wp2_with fail
  refine (K29.out _).mono ?_
  rintro e w1 ⟨rfl, hb⟩
  have hB1 := kcall hB0 hb
  replace hSa := hSa.bel hb
  replace hSb := hSb.bel hb
  replace hSd := hSd.bel hb
  clear hb hB0
  go_wp2_with fail
  refine (K44.out _ _ (slsl_3 (Blk.new _ _ 30) (hSa.alloc _) (hSb.alloc _) (hSd.alloc _))).mono ?_
  rintro e w2 ⟨rfl, hb⟩
  have hB2 := kcall (kalloc hB1 _) hb
  replace hSa := (hSa.alloc _).bel hb
  replace hSb := (hSb.alloc _).bel hb
  replace hSd := (hSd.alloc _).bel hb
  clear hb hB1
  go_wp2_with fail
  have X := Blk.new w2 #[.bool true] 4
  refine (k1 _ _ _ _ _ (hSa.bel (kalloc (Below.refl w2.heap.size w2) _)) (hSb.bel (kalloc (Below.refl w2.heap.size w2) _))).mono ?_
  rintro e w3 ⟨A4, c4, rfl, s1, hb⟩
  have hB3 := kcall (hB2.trans ((kalloc (Below.refl w2.heap.size w2) _).mono hB2.size)) hb
  replace hSa := (hSa.bel (kalloc (Below.refl w2.heap.size w2) _)).bel hb
  replace hSb := (hSb.bel (kalloc (Below.refl w2.heap.size w2) _)).bel hb
  replace hSd := (hSd.bel (kalloc (Below.refl w2.heap.size w2) _)).bel hb
  replace X := X.bel hb
  clear hb hB2
  go_wp2_with fail
  refine (clo45_any _ _ _ X).mono ?_
  rintro e w103 ⟨rfl, rfl⟩
  go_wp2_with fail
  refine (k2 _ _ _ _ _ hSa hSb).mono ?_
  rintro e w4 ⟨A5, c5, rfl, s2, hb⟩
  have hB4 := kcall hB3 hb
  replace hSa := hSa.bel hb
  replace hSb := hSb.bel hb
  replace hSd := hSd.bel hb
  replace s1 := s1.bel hb
  replace X := X.bel hb
  clear hb hB3
  go_wp2_with fail
  refine (clo45_any _ _ _ X).mono ?_
  rintro e w104 ⟨rfl, rfl⟩
  go_wp2_with fail
  refine (k3 _ _ _ _ _ hSb hSa).mono ?_
  rintro e w5 ⟨A6, c6, rfl, s3, hb⟩
  have hB5 := kcall hB4 hb
  replace hSa := hSa.bel hb
  replace hSb := hSb.bel hb
  replace hSd := hSd.bel hb
  replace s1 := s1.bel hb
  replace s2 := s2.bel hb
  replace X := X.bel hb
  clear hb hB4
  go_wp2_with fail
  refine (clo45_any _ _ _ X).mono ?_
  rintro e w105 ⟨rfl, rfl⟩
  go_wp2_with fail
  refine (k4 _ _ _ _ _ hSb hSa).mono ?_
  rintro e w6 ⟨A7, c7, rfl, s4, hb⟩
  have hB6 := kcall hB5 hb
  replace hSa := hSa.bel hb
  replace hSb := hSb.bel hb
  replace hSd := hSd.bel hb
  replace s1 := s1.bel hb
  replace s2 := s2.bel hb
  replace s3 := s3.bel hb
  replace X := X.bel hb
  clear hb hB5
  go_wp2_with fail
  refine (clo45_any _ _ _ X).mono ?_
  rintro e w106 ⟨rfl, rfl⟩
  go_wp2_with fail
  refine (k5 _ _ _ _ _ s1 hSd).mono ?_
  rintro e w7 ⟨A8, c8, rfl, s5, hb⟩
  have hB7 := kcall hB6 hb
  replace hSa := hSa.bel hb
  replace hSb := hSb.bel hb
  replace hSd := hSd.bel hb
  replace s1 := s1.bel hb
  replace s2 := s2.bel hb
  replace s3 := s3.bel hb
  replace s4 := s4.bel hb
  replace X := X.bel hb
  clear hb hB6
  go_wp2_with fail
  refine (clo45_any _ _ _ X).mono ?_
  rintro e w107 ⟨rfl, rfl⟩
  go_wp2_with fail
  refine (k6 _ _ _ _ _ hSb hSd).mono ?_
  rintro e w8 ⟨A9, c9, rfl, s6, hb⟩
  have hB8 := kcall hB7 hb
  replace hSa := hSa.bel hb
  replace hSb := hSb.bel hb
  replace hSd := hSd.bel hb
  replace s1 := s1.bel hb
  replace s2 := s2.bel hb
  replace s3 := s3.bel hb
  replace s4 := s4.bel hb
  replace s5 := s5.bel hb
  replace X := X.bel hb
  clear hb hB7
  go_wp2_with fail
  refine (clo45_any _ _ _ X).mono ?_
  rintro e w108 ⟨rfl, rfl⟩
  go_wp2_with fail
  refine (k7 _ _ _ _ _ hSa s6).mono ?_
  rintro e w9 ⟨A10, c10, rfl, s7, hb⟩
  have hB9 := kcall hB8 hb
  replace hSa := hSa.bel hb
  replace hSb := hSb.bel hb
  replace hSd := hSd.bel hb
  replace s1 := s1.bel hb
  replace s2 := s2.bel hb
  replace s3 := s3.bel hb
  replace s4 := s4.bel hb
  replace s5 := s5.bel hb
  replace s6 := s6.bel hb
  replace X := X.bel hb
  clear s6
  clear hb hB8
  go_wp2_with fail
  refine (clo45_any _ _ _ X).mono ?_
  rintro e w109 ⟨rfl, rfl⟩
  go_wp2_with fail
  refine (k8 _ _ _ _ _ s2 hSd).mono ?_
  rintro e w10 ⟨A11, c11, rfl, s8, hb⟩
  have hB10 := kcall hB9 hb
  replace hSa := hSa.bel hb
  replace hSb := hSb.bel hb
  replace hSd := hSd.bel hb
  replace s1 := s1.bel hb
  replace s2 := s2.bel hb
  replace s3 := s3.bel hb
  replace s4 := s4.bel hb
  replace s5 := s5.bel hb
  replace s7 := s7.bel hb
  replace X := X.bel hb
  clear hb hB9
  go_wp2_with fail
  refine (clo45_any _ _ _ X).mono ?_
  rintro e w110 ⟨rfl, rfl⟩
  go_wp2_with fail
  refine (k9 _ _ _ _ _ hSb hSd).mono ?_
  rintro e w11 ⟨A12, c12, rfl, s9, hb⟩
  have hB11 := kcall hB10 hb
  replace hSa := hSa.bel hb
  replace hSb := hSb.bel hb
  replace hSd := hSd.bel hb
  replace s1 := s1.bel hb
  replace s2 := s2.bel hb
  replace s3 := s3.bel hb
  replace s4 := s4.bel hb
  replace s5 := s5.bel hb
  replace s7 := s7.bel hb
  replace s8 := s8.bel hb
  replace X := X.bel hb
  clear hb hB10
  go_wp2_with fail
  refine (clo45_any _ _ _ X).mono ?_
  rintro e w111 ⟨rfl, rfl⟩
  go_wp2_with fail
  refine (k10 _ _ _ _ _ hSa s9).mono ?_
  rintro e w12 ⟨A13, c13, rfl, s10, hb⟩
  have hB12 := kcall hB11 hb
  replace hSa := hSa.bel hb
  replace hSb := hSb.bel hb
  replace hSd := hSd.bel hb
  replace s1 := s1.bel hb
  replace s2 := s2.bel hb
  replace s3 := s3.bel hb
  replace s4 := s4.bel hb
  replace s5 := s5.bel hb
  replace s7 := s7.bel hb
  replace s8 := s8.bel hb
  replace s9 := s9.bel hb
  replace X := X.bel hb
  clear s9
  clear hb hB11
  go_wp2_with fail
  refine (clo45_any _ _ _ X).mono ?_
  rintro e w112 ⟨rfl, rfl⟩
  go_wp2_with fail
  refine (k11 _ _ _ _ _ s1 hSd).mono ?_
  rintro e w13 ⟨A14, c14, rfl, s11, hb⟩
  have hB13 := kcall hB12 hb
  replace hSa := hSa.bel hb
  replace hSb := hSb.bel hb
  replace hSd := hSd.bel hb
  replace s1 := s1.bel hb
  replace s2 := s2.bel hb
  replace s3 := s3.bel hb
  replace s4 := s4.bel hb
  replace s5 := s5.bel hb
  replace s7 := s7.bel hb
  replace s8 := s8.bel hb
  replace s10 := s10.bel hb
  replace X := X.bel hb
  clear hb hB12
  go_wp2_with fail
  refine (clo45_any _ _ _ X).mono ?_
  rintro e w113 ⟨rfl, rfl⟩
  go_wp2_with fail
  refine (k12 _ _ _ _ _ hSa hSd).mono ?_
  rintro e w14 ⟨A15, c15, rfl, s12, hb⟩
  have hB14 := kcall hB13 hb
  replace hSa := hSa.bel hb
  replace hSb := hSb.bel hb
  replace hSd := hSd.bel hb
  replace s1 := s1.bel hb
  replace s2 := s2.bel hb
  replace s3 := s3.bel hb
  replace s4 := s4.bel hb
  replace s5 := s5.bel hb
  replace s7 := s7.bel hb
  replace s8 := s8.bel hb
  replace s10 := s10.bel hb
  replace s11 := s11.bel hb
  replace X := X.bel hb
  clear hb hB13
  go_wp2_with fail
  refine (clo45_any _ _ _ X).mono ?_
  rintro e w114 ⟨rfl, rfl⟩
  go_wp2_with fail
  refine (k9 _ _ _ _ _ hSb hSd).mono ?_
  rintro e w15 ⟨A16, c16, rfl, s13, hb⟩
  have hB15 := kcall hB14 hb
  replace hSa := hSa.bel hb
  replace hSb := hSb.bel hb
  replace hSd := hSd.bel hb
  replace s1 := s1.bel hb
  replace s2 := s2.bel hb
  replace s3 := s3.bel hb
  replace s4 := s4.bel hb
  replace s5 := s5.bel hb
  replace s7 := s7.bel hb
  replace s8 := s8.bel hb
  replace s10 := s10.bel hb
  replace s11 := s11.bel hb
  replace s12 := s12.bel hb
  replace X := X.bel hb
  clear hb hB14
  go_wp2_with fail
  refine (clo45_any _ _ _ X).mono ?_
  rintro e w115 ⟨rfl, rfl⟩
  go_wp2_with fail
  refine (k13 _ _ _ _ _ s12 s13).mono ?_
  rintro e w16 ⟨A17, c17, rfl, s14, hb⟩
  have hB16 := kcall hB15 hb
  replace hSa := hSa.bel hb
  replace hSb := hSb.bel hb
  replace hSd := hSd.bel hb
  replace s1 := s1.bel hb
  replace s2 := s2.bel hb
  replace s3 := s3.bel hb
  replace s4 := s4.bel hb
  replace s5 := s5.bel hb
  replace s7 := s7.bel hb
  replace s8 := s8.bel hb
  replace s10 := s10.bel hb
  replace s11 := s11.bel hb
  replace s12 := s12.bel hb
  replace s13 := s13.bel hb
  replace X := X.bel hb
  clear s12
  clear s13
  clear hb hB15
  go_wp2_with fail
  refine (clo45_any _ _ _ X).mono ?_
  rintro e w116 ⟨rfl, rfl⟩
  go_wp2_with fail
  refine (k14 _ _ _ _ _ hSa hSb).mono ?_
  rintro e w17 ⟨A18, c18, rfl, s15, hb⟩
  have hB17 := kcall hB16 hb
  replace hSa := hSa.bel hb
  replace hSb := hSb.bel hb
  replace hSd := hSd.bel hb
  replace s1 := s1.bel hb
  replace s2 := s2.bel hb
  replace s3 := s3.bel hb
  replace s4 := s4.bel hb
  replace s5 := s5.bel hb
  replace s7 := s7.bel hb
  replace s8 := s8.bel hb
  replace s10 := s10.bel hb
  replace s11 := s11.bel hb
  replace s14 := s14.bel hb
  replace X := X.bel hb
  clear hb hB16
  go_wp2_with fail
  refine (clo45_any _ _ _ X).mono ?_
  rintro e w117 ⟨rfl, rfl⟩
  go_wp2_with fail
  refine (k15 _ _ _ _ _ s15 hSb).mono ?_
  rintro e w18 ⟨A19, c19, rfl, s16, hb⟩
  have hB18 := kcall hB17 hb
  replace hSa := hSa.bel hb
  replace hSb := hSb.bel hb
  replace hSd := hSd.bel hb
  replace s1 := s1.bel hb
  replace s2 := s2.bel hb
  replace s3 := s3.bel hb
  replace s4 := s4.bel hb
  replace s5 := s5.bel hb
  replace s7 := s7.bel hb
  replace s8 := s8.bel hb
  replace s10 := s10.bel hb
  replace s11 := s11.bel hb
  replace s14 := s14.bel hb
  replace s15 := s15.bel hb
  replace X := X.bel hb
  clear s15
  clear hb hB17
  go_wp2_with fail
  refine (clo45_any _ _ _ X).mono ?_
  rintro e w118 ⟨rfl, rfl⟩
  go_wp2_with fail
  refine (k14 _ _ _ _ _ hSa hSb).mono ?_
  rintro e w19 ⟨A20, c20, rfl, s17, hb⟩
  have hB19 := kcall hB18 hb
  replace hSa := hSa.bel hb
  replace hSb := hSb.bel hb
  replace hSd := hSd.bel hb
  replace s1 := s1.bel hb
  replace s2 := s2.bel hb
  replace s3 := s3.bel hb
  replace s4 := s4.bel hb
  replace s5 := s5.bel hb
  replace s7 := s7.bel hb
  replace s8 := s8.bel hb
  replace s10 := s10.bel hb
  replace s11 := s11.bel hb
  replace s14 := s14.bel hb
  replace s16 := s16.bel hb
  replace X := X.bel hb
  clear hb hB18
  go_wp2_with fail
  refine (clo45_any _ _ _ X).mono ?_
  rintro e w119 ⟨rfl, rfl⟩
  go_wp2_with fail
  refine (k16 _ _ _ _ _ s17 hSd).mono ?_
  rintro e w20 ⟨A21, c21, rfl, s18, hb⟩
  have hB20 := kcall hB19 hb
  replace hSa := hSa.bel hb
  replace hSb := hSb.bel hb
  replace hSd := hSd.bel hb
  replace s1 := s1.bel hb
  replace s2 := s2.bel hb
  replace s3 := s3.bel hb
  replace s4 := s4.bel hb
  replace s5 := s5.bel hb
  replace s7 := s7.bel hb
  replace s8 := s8.bel hb
  replace s10 := s10.bel hb
  replace s11 := s11.bel hb
  replace s14 := s14.bel hb
  replace s16 := s16.bel hb
  replace s17 := s17.bel hb
  replace X := X.bel hb
  clear s17
  clear hb hB19
  go_wp2_with fail
  refine (clo45_any _ _ _ X).mono ?_
  rintro e w120 ⟨rfl, rfl⟩
  go_wp2_with fail
  refine (k6 _ _ _ _ _ hSb hSd).mono ?_
  rintro e w21 ⟨A22, c22, rfl, s19, hb⟩
  have hB21 := kcall hB20 hb
  replace hSa := hSa.bel hb
  replace hSb := hSb.bel hb
  replace hSd := hSd.bel hb
  replace s1 := s1.bel hb
  replace s2 := s2.bel hb
  replace s3 := s3.bel hb
  replace s4 := s4.bel hb
  replace s5 := s5.bel hb
  replace s7 := s7.bel hb
  replace s8 := s8.bel hb
  replace s10 := s10.bel hb
  replace s11 := s11.bel hb
  replace s14 := s14.bel hb
  replace s16 := s16.bel hb
  replace s18 := s18.bel hb
  replace X := X.bel hb
  clear hb hB20
  go_wp2_with fail
  refine (clo45_any _ _ _ X).mono ?_
  rintro e w121 ⟨rfl, rfl⟩
  go_wp2_with fail
  refine (k17 _ _ _ _ _ hSa s19).mono ?_
  rintro e w22 ⟨A23, c23, rfl, s20, hb⟩
  have hB22 := kcall hB21 hb
  replace hSa := hSa.bel hb
  replace hSb := hSb.bel hb
  replace hSd := hSd.bel hb
  replace s1 := s1.bel hb
  replace s2 := s2.bel hb
  replace s3 := s3.bel hb
  replace s4 := s4.bel hb
  replace s5 := s5.bel hb
  replace s7 := s7.bel hb
  replace s8 := s8.bel hb
  replace s10 := s10.bel hb
  replace s11 := s11.bel hb
  replace s14 := s14.bel hb
  replace s16 := s16.bel hb
  replace s18 := s18.bel hb
  replace s19 := s19.bel hb
  replace X := X.bel hb
  clear s19
  clear hb hB21
  go_wp2_with fail
  refine (clo45_any _ _ _ X).mono ?_
  rintro e w122 ⟨rfl, rfl⟩
  go_wp2_with fail
  refine (k18 _ _ _ _ _ hSa hSa).mono ?_
  rintro e w23 ⟨A24, c24, rfl, s21, hb⟩
  have hB23 := kcall hB22 hb
  replace hSa := hSa.bel hb
  replace hSb := hSb.bel hb
  replace hSd := hSd.bel hb
  replace s1 := s1.bel hb
  replace s2 := s2.bel hb
  replace s3 := s3.bel hb
  replace s4 := s4.bel hb
  replace s5 := s5.bel hb
  replace s7 := s7.bel hb
  replace s8 := s8.bel hb
  replace s10 := s10.bel hb
  replace s11 := s11.bel hb
  replace s14 := s14.bel hb
  replace s16 := s16.bel hb
  replace s18 := s18.bel hb
  replace s20 := s20.bel hb
  replace X := X.bel hb
  clear hb hB22
  go_wp2_with fail
  refine (clo45_any _ _ _ X).mono ?_
  rintro e w123 ⟨rfl, rfl⟩
  go_wp2_with fail
  refine (k19 _ _ _ _ _ hSa (N0.out _)).mono ?_
  rintro e w24 ⟨A25, c25, rfl, s22, hb⟩
  have hB24 := kcall hB23 hb
  replace hSa := hSa.bel hb
  replace hSb := hSb.bel hb
  replace hSd := hSd.bel hb
  replace s1 := s1.bel hb
  replace s2 := s2.bel hb
  replace s3 := s3.bel hb
  replace s4 := s4.bel hb
  replace s5 := s5.bel hb
  replace s7 := s7.bel hb
  replace s8 := s8.bel hb
  replace s10 := s10.bel hb
  replace s11 := s11.bel hb
  replace s14 := s14.bel hb
  replace s16 := s16.bel hb
  replace s18 := s18.bel hb
  replace s20 := s20.bel hb
  replace s21 := s21.bel hb
  replace X := X.bel hb
  clear hb hB23
  go_wp2_with fail
  refine (clo45_any _ _ _ X).mono ?_
  rintro e w124 ⟨rfl, rfl⟩
  have G : ∀ k : Nat, k < 9 → ∃ (l : List Sp) (B1 : Option Addr) (d1 : Nat) (B2 : Option Addr) (d2 : Nat), (#[.slice A4 u.length c4, .slice A6 u.length c6, .slice A5 m.length c5, .slice A7 m.length c7, .slice A8 x3.length c8, .slice A10 x3.length c10, .slice A11 x6.length c11, .slice A13 x6.length c13, .slice A14 x9.length c14, .slice A17 x9.length c17, .slice A19 u.length c19, .slice A4 u.length c4, .slice A21 x16.length c21, .slice A23 x16.length c23, .slice A24 0 c24, .slice none 0 0, .slice A25 a.length c25, .slice A a.length c] : Array Value)[k * 2]? = some (.slice B1 l.length d1) ∧ (#[.slice A4 u.length c4, .slice A6 u.length c6, .slice A5 m.length c5, .slice A7 m.length c7, .slice A8 x3.length c8, .slice A10 x3.length c10, .slice A11 x6.length c11, .slice A13 x6.length c13, .slice A14 x9.length c14, .slice A17 x9.length c17, .slice A19 u.length c19, .slice A4 u.length c4, .slice A21 x16.length c21, .slice A23 x16.length c23, .slice A24 0 c24, .slice none 0 0, .slice A25 a.length c25, .slice A a.length c] : Array Value)[k * 2 + 1]? = some (.slice B2 l.length d2) ∧ Sl bc 2 w124 B1 d1 l ∧ Sl bc 2 w124 B2 d2 l := fun k hk => by
    match k, hk with
    | 0, _ => exact ⟨_, _, _, _, _, rfl, rfl, s1, s3⟩
    | 1, _ => exact ⟨_, _, _, _, _, rfl, rfl, s2, s4⟩
    | 2, _ => exact ⟨_, _, _, _, _, rfl, rfl, s5, s7⟩
    | 3, _ => exact ⟨_, _, _, _, _, rfl, rfl, s8, s10⟩
    | 4, _ => exact ⟨_, _, _, _, _, rfl, rfl, s11, s14⟩
    | 5, _ => exact ⟨_, _, _, _, _, rfl, rfl, s16, s1⟩
    | 6, _ => exact ⟨_, _, _, _, _, rfl, rfl, s18, s20⟩
    | 7, _ => exact ⟨[], _, _, _, _, rfl, rfl, s21, N0.out _⟩
    | 8, _ => exact ⟨_, _, _, _, _, rfl, rfl, s22, hSa⟩
  replace G := hide G
  have hsz := hB24.size
  have hB := hide hB24
  clear hB24 hSa hSb hSd s1 s2 s3 s4 s5 s7 s8 s10 s11 s14 s16 s18 s20 s21 s22
  go_wp2
  go_loopw [185] (fun i wr => ∃ k : Nat, k ≤ 9 ∧ i = .int .i64 k ∧ Below w124.heap.size w124 wr ∧ Blk wr w124.heap.size 57 #[.slice A4 u.length c4, .slice A6 u.length c6, .slice A5 m.length c5, .slice A7 m.length c7, .slice A8 x3.length c8, .slice A10 x3.length c10, .slice A11 x6.length c11, .slice A13 x6.length c13, .slice A14 x9.length c14, .slice A17 x9.length c17, .slice A19 u.length c19, .slice A4 u.length c4, .slice A21 x16.length c21, .slice A23 x16.length c23, .slice A24 0 c24, .slice none 0 0, .slice A25 a.length c25, .slice A a.length c]) (fun i _ => 9 - (intOf i).toNat)
  case atStart => exact ⟨0, by omega, rfl, kalloc (Below.refl _ _) _, Blk.new _ _ _⟩
  case round =>
    obtain ⟨k, hk, rfl, hbr, hL⟩ := hrel
    by_cases hlt : k < 9
    · obtain ⟨l, B1, d1, B2, d2, x1, x2, q1, q2⟩ := G.out k hlt
      have y1 := hL.cell (k * 2) x1
      have y2 := hL.cell (k * 2 + 1) x2
      have hbl := hL.lt
      have K := hide (K43.out B1 B2 d1 d2 l)
      simp only [decide_true] at K
      have Q1 := hide (q1.bel hbr)
      have Q2 := hide (q2.bel hbr)
      have z1 := q1.le
      have z2 := q1.max
      have z3 := q2.le
      have z4 := q2.max
      clear x1 x2 q1 q2 G
      replace hL := hide hL
      go_wp2_with fail
      refine (K.out _ (Q1.out.alloc _) (Q2.out.alloc _)).mono ?_
      rintro e w7 ⟨rfl, hb⟩
      have hB7 := kcall (kalloc hbr _) hb
      have hL7 := hide ((hL.out.alloc _).bel hb)
      clear hb K Q1 Q2 hL hbr y1 y2 hbl
      go_wp2
      go_roundw
      case rel => exact ⟨k + 1, by omega, by go_num, hB7, hL7.out⟩
      case measure => simp [intOf]; omega
    · obtain rfl : k = 9 := by omega
      have Xr := X.bel hbr
      have y0 := Xr.cell (v := .bool true) 0 rfl
      have hbl := Xr.lt
      clear hL G
      go_wp2
      go_ret
      exact ⟨rfl, kcall hB.out hbr⟩
end Go.Proofs.Ytbfgbkblblnbhaa
