/-
  glossary: Standing.
  slices.Index at strings; what tags.Items lays out, plainly.
-/
import Derived.Test.YtkfdafeonhnloaaGreatDoorGM13
import Derived.Lib.SliceRun
import Derived.Test.YtkfdafeonhnloaaGreatDoorGM10
namespace Go.Mine.C
open Go.RowKit Go.Mine
def useB (lang at_ known : Int) (y : TermH) : Bool := (y.lang == lang) && (decide (y.at_ ≤ at_) && decide (y.known ≤ known))
abbrev TMap := Key → Option TermH
def takeB (m : TMap) (y : TermH) : Bool := match m (keyT y) with
  | none => true
  | some z => decide (z.at_ ≤ y.at_)
def updT (m : TMap) (y : TermH) : TMap := fun k => if k = keyT y then some y else m k
def stepK (lang at_ known : Int) (m : TMap) (y : TermH) : TMap := if (useB lang at_ known y && takeB m y) = true then updT m y else m
def lastT (lang at_ known : Int) (l : List TermH) : TMap := l.foldl (stepK lang at_ known) (fun _ => none)
def keepB (m : TMap) (y : TermH) : Bool := (match m (keyT y) with
  | none => false
  | some z => z.no == y.no) && !y.gone
def standL (lang at_ known : Int) (l : List TermH) : List TermH := l.filter (keepB (lastT lang at_ known l))
def standB (lang at_ known : Int) (l : List TermH) : Bool := termsB l && (langB lang && (timeB at_ && timeB known))
def tmV (m : TMap) : Key → Option Value := fun k => (m k).map termV
theorem lastT_snoc (lang at_ known : Int) (l : List TermH) (y : TermH) : lastT lang at_ known (l ++ [y]) = stepK lang at_ known (lastT lang at_ known l) y := by
  unfold lastT; rw [List.foldl_append]; rfl
theorem tmV_upd (m : TMap) (y : TermH) : tmV (updT m y) = updG (tmV m) (keyT y) (termV y) := by
  funext k
  unfold tmV updT updG
  by_cases h : k = keyT y
  · rw [if_pos h, if_pos h]; rfl
  · rw [if_neg h, if_neg h]
def termZ : Value := .agg #[.int .i64 0, .int .i64 0, .int .i64 0, .int .i64 0, .slice none 0 0, .slice none 0 0, .string ⟨#[]⟩, .bool false]
theorem right_key {x : TermH} (h : rightB x = true) : okK (keyT x) := by
  have h1 := phrase_join (right_source h)
  unfold rightB at h
  simp only [Bool.and_eq_true] at h
  have h2 := h.2.2.2.2.1
  unfold langB at h2
  simp only [Bool.and_eq_true, decide_eq_true_eq] at h2
  refine ⟨?_, ?_⟩
  · simp only [keyT]; unfold I64; omega
  · have : (keyT x).2.size = (Lib.join (x.source.map (·.data.toList)) [10]).length := by rw [Lib.size_eq]; rfl
    rw [this]; unfold maxLen; omega
def StandPost (lang at_ known : Int) (l : List TermH) (w w' : World) (e : Ending) : Prop := ∃ (v : Value) (er : Int), e = .returned (.tuple #[v, .int .i64 er]) ∧ (er = 0 ↔ standB lang at_ known l = true) ∧ (er = 0 → OwnL termC 8 85 w' w.heap.size v (standL lang at_ known l))
theorem StandPost.bad {lang at_ known : Int} {l : List TermH} {w w' : World} {er : Int} (he : er ≠ 0) (h : standB lang at_ known l = false) : StandPost lang at_ known l w w' (.returned (.tuple #[.slice none 0 0, .int .i64 er])) :=
  ⟨_, er, rfl, by rw [h]; simp [he], fun h0 => absurd h0 he⟩
end Go.Mine.C
namespace Go.Proofs.YtkfdafeonhnloaaGreatDoor
open Go.RowKit Go.Shelf Go.Mine Go.Mine.C
attribute [local go_sem] Oper.semAt_some
theorem Tryz_infoC85 : (Tryz.prog.info? 85).map (fun i => (i.zero, i.size, i.bytes)) = some (some (.agg #[.int .i64 0, .int .i64 0, .int .i64 0, .int .i64 0, .slice none 0 0, .slice none 0 0, .string ByteArray.empty, .bool false]), 8, 104) := by kernel_rfl
theorem one85 (x : TermH) : ∀ u ∈ termC x, u.oneCell' = true := by
  intro u hu
  simp only [termC, List.mem_cons, List.not_mem_nil, or_false] at hu
  rcases hu with rfl | rfl | rfl | rfl | rfl | rfl | rfl | rfl <;> rfl
set_option maxRecDepth 100000 in
set_option maxHeartbeats 8000000 in
theorem standing32 (lang at_ known : Int) (A : Option Addr) (c : Nat) (l : List TermH) (w : World) (hS : Sl termC 8 w A c l) (ho : ∀ x ∈ l, TermOk w x) (hE : Env w) :
    Calls Tryz.prog 32 #[.slice A l.length c, .int .i64 lang, .int .i64 at_, .int .i64 known] w fun e w' => StandPost lang at_ known l w w' e ∧ Below w.heap.size w w' := by
  have HR := hide (show standB lang at_ known l = (termsB l && (langB lang && (timeB at_ && timeB known))) from rfl)
  have HBAD := hide (fun (w' : World) (er : Int) (he : er ≠ 0) (h : standB lang at_ known l = false) => StandPost.bad (w := w) (w' := w') he h)
  have HGOOD := hide (fun (w' : World) (v : Value) (h : standB lang at_ known l = true) (hO : OwnL termC 8 85 w' w.heap.size v (standL lang at_ known l)) => show StandPost lang at_ known l w w' (.returned (.tuple #[v, .int .i64 0])) from ⟨v, 0, rfl, by rw [h]; simp, fun _ => hO⟩)
  have HTL := hide (show termsB l = true → l.length ≤ 1024 ∧ ∀ x ∈ l, rightB x = true from fun h => by
    unfold termsB at h
    rw [Bool.and_eq_true, decide_eq_true_eq] at h
    exact ⟨h.1, okTs_right h.2⟩)
  have K1 := hide (check68 A c l w hS ho hE)
  have HS := hide hS
  have HO := hide ho
  have KL := hide (fun w => lang69 lang w)
  have KT1 := hide (fun w => time70 at_ w)
  have KT2 := hide (fun w => time70 known w)
  have hle := hS.le
  have hmx := hS.max
  clear hS ho hE
  generalize langB lang = p1 at *
  generalize timeB at_ = p2 at *
  generalize timeB known = p3 at *
  generalize standB lang at_ known l = R at *
  have hmm := @run_makeMap Tryz.prog
  go_enter Tryz.func32, Tryz.ntmps32
  go_wp2_with fail
  refine K1.out.mono ?_
  rintro e w1 ⟨⟨er, rfl, her⟩, hb1⟩
  have HB1 := hide hb1
  have HER := hide her
  clear K1 her hb1
  by_cases h0 : er = 0
  case neg =>
    have g1 : (er == 0) = false := by simpa using h0
    have g2 : (er != 0) = true := by rw [bne, g1]; rfl
    have HF := hide (show R = false by
      have : termsB l = false := by
        cases h : termsB l
        · rfl
        · exact absurd (HER.out.2 h) h0
      rw [HR.out, this, Bool.false_and])
    have HN := hide h0
    clear h0 hmm
    go_wp2
    exact bodyPost_ret (v := .tuple #[.slice none 0 0, .int .i64 er]) (by simp [results, Tryz.results32, go_sem]) rfl ⟨HBAD.out _ _ HN.out HF.out, HB1.out⟩
  subst h0
  have hT := HER.out.1 rfl
  obtain ⟨hl1, hl2⟩ := HTL.out hT
  rw [hT, Bool.true_and] at HR
  have HRT := hide hl2
  clear HTL HER hT hl2
  go_wp2_with fail
  refine (KL.out _).mono ?_
  rintro e w2 ⟨rfl, rfl⟩
  cases p1
  · rw [Bool.false_and] at HR
    clear hmm
    go_wp2
    exact bodyPost_ret (v := .tuple #[.slice none 0 0, .int .i64 1]) (by simp [results, Tryz.results32, go_sem]) rfl ⟨HBAD.out _ _ (by decide) HR.out, HB1.out⟩
  rw [Bool.true_and] at HR
  go_wp2_with fail
  refine (KT1.out _).mono ?_
  rintro e w2 ⟨rfl, rfl⟩
  cases p2
  · rw [Bool.false_and] at HR
    clear hmm
    go_wp2
    exact bodyPost_ret (v := .tuple #[.slice none 0 0, .int .i64 1]) (by simp [results, Tryz.results32, go_sem]) rfl ⟨HBAD.out _ _ (by decide) HR.out, HB1.out⟩
  rw [Bool.true_and] at HR
  go_wp2_with fail
  refine (KT2.out _).mono ?_
  rintro e w2 ⟨rfl, rfl⟩
  cases p3
  · clear hmm
    go_wp2
    exact bodyPost_ret (v := .tuple #[.slice none 0 0, .int .i64 1]) (by simp [results, Tryz.results32, go_sem]) rfl ⟨HBAD.out _ _ (by decide) HR.out, HB1.out⟩
  go_wp2
  clear hmm
  obtain ⟨i0, hi, hz0, hz1, hz2⟩ := info_parts Tryz_infoC85
  have HI := hide hi
  clear hi
  have HM0 : Hid (∃ cnt, MapG Tryz.prog 141 litK okK (w1.alloc (.map #[] 0)) w1.heap.size 0 (tmV (lastT lang at_ known (l.take 0))) cnt) := hide ⟨0, MapG.made w1 Tryz.prog 141 litK okK⟩
  have HB2 := hide (kalloc HB1.out (.map #[] 0))
  obtain ⟨mb, hmb⟩ : ∃ mb, mb = w1.heap.size := ⟨_, rfl⟩
  rw [← hmb] at HM0 ⊢
  have hmbw : w.heap.size ≤ mb := by have := HB1.out.size; omega
  obtain ⟨w2, hw2⟩ : ∃ x, x = w1.alloc (.map #[] 0) := ⟨_, rfl⟩
  rw [← hw2] at HM0 HB2 ⊢
  clear hw2 HB1 hmb
  go_loopw [40] (fun i wr => ∃ k : Nat, k ≤ l.length ∧ i = .int .i64 k ∧ Hid (∃ n cnt, n ≤ k ∧ MapG Tryz.prog 141 litK okK wr mb n (tmV (lastT lang at_ known (l.take k))) cnt) ∧ Hid (Below w.heap.size w wr)) (fun i _ => l.length - (nI i).toNat)
  case atStart => exact ⟨0, Nat.zero_le _, rfl, hide (by obtain ⟨cnt, h⟩ := HM0.out; exact ⟨0, cnt, Nat.le_refl _, h⟩), HB2⟩
  case round =>
    clear HM0 HB2
    obtain ⟨k, hk, rfl, HM, HB⟩ := hrel
    by_cases hlt : k < l.length
    · obtain ⟨y, b, off, hy, hdr, hA, hbw, c0, c1, c2, c3, c4, c5, c6, c7⟩ := term_at (HS.out.bel HB.out) hlt
      have hmem := List.mem_of_getElem? hy
      have hry := HRT.out y hmem
      have hst : lastT lang at_ known (l.take (k + 1)) = stepK lang at_ known (lastT lang at_ known (l.take k)) y := by rw [take_of_get hy, lastT_snoc]
      subst hA
      have k0 := kalloc (Below.refl wr.heap.size wr) (.cells #[.int .i64 y.no, .int .i64 y.at_, .int .i64 y.known, .int .i64 y.lang, .slice y.sA y.source.length y.sC, .slice y.tA y.target.length y.tC, .string y.cat, .bool y.gone] 85)
      have B0 := Blk.new wr #[.int .i64 y.no, .int .i64 y.at_, .int .i64 y.known, .int .i64 y.lang, .slice y.sA y.source.length y.sC, .slice y.tA y.target.length y.tC, .string y.cat, .bool y.gone] 85
      have HB0 := hide (kcall HB.out k0)
      have HM0 : Hid (∃ n cnt, n ≤ k ∧ MapG Tryz.prog 141 litK okK (wr.alloc (.cells #[.int .i64 y.no, .int .i64 y.at_, .int .i64 y.known, .int .i64 y.lang, .slice y.sA y.source.length y.sC, .slice y.tA y.target.length y.tC, .string y.cat, .bool y.gone] 85)) mb n (tmV (lastT lang at_ known (l.take k))) cnt) := hide (by obtain ⟨n, cnt, h1, h2⟩ := HM.out; exact ⟨n, cnt, h1, h2.alloc _⟩)
      have HTO := hide ((HO.out y hmem).bel HB0.out)
      obtain ⟨q, hq⟩ : ∃ q, q = wr.heap.size := ⟨_, rfl⟩
      obtain ⟨W, hW⟩ : ∃ W, W = wr.alloc (.cells #[.int .i64 y.no, .int .i64 y.at_, .int .i64 y.known, .int .i64 y.lang, .slice y.sA y.source.length y.sC, .slice y.tA y.target.length y.tC, .string y.cat, .bool y.gone] 85) := ⟨_, rfl⟩
      rw [← hW] at B0 HB0 HM0 HTO
      rw [← hq] at B0
      have x0 := B0.cell (v := (.int .i64 y.no)) 0 rfl
      have x1 := B0.cell (v := (.int .i64 y.at_)) 1 rfl
      have x2 := B0.cell (v := (.int .i64 y.known)) 2 rfl
      have x3 := B0.cell (v := (.int .i64 y.lang)) 3 rfl
      have x4 := B0.cell (v := (.slice y.sA y.source.length y.sC)) 4 rfl
      have x5 := B0.cell (v := (.slice y.tA y.target.length y.tC)) 5 rfl
      have x6 := B0.cell (v := (.string y.cat)) 6 rfl
      have x7 := B0.cell (v := (.bool y.gone)) 7 rfl
      have xl := B0.lt
      replace B0 := hide B0
      have HRY := hide hry
      have HST := hide hst
      clear k0 hry hst hdr HB HM
      by_cases hu : useB lang at_ known y = true
      · have hu' := hu
        unfold useB at hu'
        rw [Bool.and_eq_true, Bool.and_eq_true, decide_eq_true_eq, decide_eq_true_eq] at hu'
        obtain ⟨u1, u2, u3⟩ := hu'
        have g2 : (y.lang != lang) = false := by rw [bne, u1]; rfl
        have g3 : decide (at_ < y.at_) = false := decide_eq_false (by omega)
        have g4 : decide (known < y.known) = false := decide_eq_false (by omega)
        have HU := hide hu
        clear u2 u3 hu
        have KA := fun (W' : World) (hb : Below w.heap.size w W') => about71 y W' ((HO.out y hmem).bel hb) HRY.out
        simp only [termV] at KA
        replace KA := hide KA
        have K71 := hide (KA.out W HB0.out)
        go_wp2_with fail
        rw [← hW, ← hq]
        clear hq
        refine K71.out.mono ?_
        rintro e w3 ⟨rfl, hb3⟩
        have B3 := hide (B0.out.bel hb3)
        have HB3 := hide (kcall HB0.out hb3)
        have HM3 : Hid (∃ n cnt, n ≤ k ∧ MapG Tryz.prog 141 litK okK w3 mb n (tmV (lastT lang at_ known (l.take k))) cnt) := hide (by obtain ⟨n, cnt, h1, h2⟩ := HM0.out; exact ⟨n, cnt, h1, h2.bel hb3⟩)
        have hlk : (Instr.lookup 138 (.map (some mb)) (keyV (keyT y)) true).run Tryz.prog w3 = .ok (.tuple #[(tmV (lastT lang at_ known (l.take k)) (keyT y)).getD termZ, .bool (tmV (lastT lang at_ known (l.take k)) (keyT y)).isSome]) w3 := by
          obtain ⟨n, cnt, h1, h2⟩ := HM3.out
          exact h2.look_ok keyK Tryz.underlying138 (Tryz.zeroValue85 w3) (right_key HRY.out)
        have HTB := hide (show takeB (lastT lang at_ known (l.take k)) y = match lastT lang at_ known (l.take k) (keyT y) with | none => true | some z => decide (z.at_ ≤ y.at_) from rfl)
        unfold tmV at hlk
        clear hb3 HB0 HM0 K71 B0 x0 x1 x2 x3 x4 x5 x6 x7 xl hW
        cases hMk : lastT lang at_ known (l.take k) (keyT y) with
        | none =>
          rw [hMk] at hlk HTB
          simp only [Option.map_none, Option.getD_none, Option.isSome_none, termZ] at hlk
          have HF := hide (show stepK lang at_ known (lastT lang at_ known (l.take k)) y = updT (lastT lang at_ known (l.take k)) y by
            unfold stepK
            rw [HU.out, HTB.out]; rfl)
          go_wp2_with fail
          refine at_world (fun W => Blk W q 85 #[.int .i64 y.no, .int .i64 y.at_, .int .i64 y.known, .int .i64 y.lang, .slice y.sA y.source.length y.sC, .slice y.tA y.target.length y.tC, .string y.cat, .bool y.gone] ∧ Below w.heap.size w W ∧ (∃ n cnt, n ≤ k ∧ MapG Tryz.prog 141 litK okK W mb n (tmV (lastT lang at_ known (l.take k))) cnt)) ⟨B3.out.alloc _, kalloc HB3.out _, by obtain ⟨n, cnt, h1, h2⟩ := HM3.out; exact ⟨n, cnt, h1, h2.alloc _⟩⟩ ?_
          clear B3 HB3 HM3
          rintro W3 ⟨b3, hb3, n, cnt, hn, hM⟩
          have v0 := b3.cell (v := (.int .i64 y.no)) 0 rfl
          have v1 := b3.cell (v := (.int .i64 y.at_)) 1 rfl
          have v2 := b3.cell (v := (.int .i64 y.known)) 2 rfl
          have v3 := b3.cell (v := (.int .i64 y.lang)) 3 rfl
          have v4 := b3.cell (v := (.slice y.sA y.source.length y.sC)) 4 rfl
          have v5 := b3.cell (v := (.slice y.tA y.target.length y.tC)) 5 rfl
          have v6 := b3.cell (v := (.string y.cat)) 6 rfl
          have v7 := b3.cell (v := (.bool y.gone)) 7 rfl
          have vl := b3.lt
          have hqm : some q ≠ some mb := fun e => hM.notcells b3 (Option.some.inj e)
          have HBd := hide hb3.drew
          have HMd := hide (hM.bel (Below.refl _ _).drew)
          clear b3 hb3 hM
          go_region_held3 (fun w' => w'.cell? ⟨q, 0, none⟩ = some (.int .i64 y.no) ∧ w'.cell? ⟨q, 1, none⟩ = some (.int .i64 y.at_) ∧ w'.cell? ⟨q, 2, none⟩ = some (.int .i64 y.known) ∧ w'.cell? ⟨q, 3, none⟩ = some (.int .i64 y.lang) ∧ w'.cell? ⟨q, 4, none⟩ = some (.slice y.sA y.source.length y.sC) ∧ w'.cell? ⟨q, 5, none⟩ = some (.slice y.tA y.target.length y.tC) ∧ w'.cell? ⟨q, 6, none⟩ = some (.string y.cat) ∧ w'.cell? ⟨q, 7, none⟩ = some (.bool y.gone))
            (first | exact ⟨v0, v1, v2, v3, v4, v5, v6, v7⟩ | exact ⟨s0, s1, s2, s3, s4, s5, s6, s7⟩ | exact ⟨r0, r1, r2, r3, r4, r5, r6, r7⟩ | go_keep)
            (first
              | (go_at_call 71
                 refine (KA.out _ HBd.out).mono ?_
                 rintro e w4 ⟨rfl, hb4⟩
                 have s0 := (hb4.cell (p := ⟨q, 0, none⟩) vl).trans v0
                 have s1 := (hb4.cell (p := ⟨q, 1, none⟩) vl).trans v1
                 have s2 := (hb4.cell (p := ⟨q, 2, none⟩) vl).trans v2
                 have s3 := (hb4.cell (p := ⟨q, 3, none⟩) vl).trans v3
                 have s4 := (hb4.cell (p := ⟨q, 4, none⟩) vl).trans v4
                 have s5 := (hb4.cell (p := ⟨q, 5, none⟩) vl).trans v5
                 have s6 := (hb4.cell (p := ⟨q, 6, none⟩) vl).trans v6
                 have s7 := (hb4.cell (p := ⟨q, 7, none⟩) vl).trans v7
                 obtain ⟨w5, e5, hM5, hg5⟩ := (HMd.out.bel hb4).put keyK Tryz.underlying138 (by unfold maxLen; omega) (right_key HRY.out) (termV y)
                 simp only [termV] at e5
                 have r0 := gcell hg5 (Nat.lt_of_lt_of_le vl hb4.size) hqm s0
                 have r1 := gcell hg5 (Nat.lt_of_lt_of_le vl hb4.size) hqm s1
                 have r2 := gcell hg5 (Nat.lt_of_lt_of_le vl hb4.size) hqm s2
                 have r3 := gcell hg5 (Nat.lt_of_lt_of_le vl hb4.size) hqm s3
                 have r4 := gcell hg5 (Nat.lt_of_lt_of_le vl hb4.size) hqm s4
                 have r5 := gcell hg5 (Nat.lt_of_lt_of_le vl hb4.size) hqm s5
                 have r6 := gcell hg5 (Nat.lt_of_lt_of_le vl hb4.size) hqm s6
                 have r7 := gcell hg5 (Nat.lt_of_lt_of_le vl hb4.size) hqm s7
                 skip))
          rw [← tmV_upd, ← HF.out, ← HST.out] at hM5
          have HM5 : Hid (∃ n cnt, n ≤ k + 1 ∧ MapG Tryz.prog 141 litK okK w5 mb n (tmV (lastT lang at_ known (l.take (k + 1)))) cnt) := hide ⟨_, _, by omega, hM5⟩
          have HB5 := hide (Below.grown (kcall HBd.out hb4) hg5 (kcall HBd.out hb4).size (fun j hj => by cases hj; exact hmbw))
          clear v0 s0 r0 v1 s1 r1 v2 s2 r2 v3 s3 r3 v4 s4 r4 v5 s5 r5 v6 s6 r6 v7 s7 r7 e5 hM5 hg5 hb4 HBd HMd hqm vl
          go_wp2
          go_roundw
          case rel => exact ⟨k + 1, by omega, by go_num, HM5, HB5⟩
          case measure => simp [nI]; omega
        | some z =>
          rw [hMk] at hlk HTB
          simp only [Option.map_some, Option.getD_some, Option.isSome_some, termV] at hlk
          by_cases hz : z.at_ ≤ y.at_
          · have g5 : decide (z.at_ ≤ y.at_) = true := decide_eq_true hz
            have HF := hide (show stepK lang at_ known (lastT lang at_ known (l.take k)) y = updT (lastT lang at_ known (l.take k)) y by
              unfold stepK
              rw [HU.out, HTB.out]
              show (if (true && decide (z.at_ ≤ y.at_)) = true then _ else _) = _
              rw [g5]; rfl)
            have x1 := (B3.out.alloc (.cells #[.int .i64 z.no, .int .i64 z.at_, .int .i64 z.known, .int .i64 z.lang, .slice z.sA z.source.length z.sC, .slice z.tA z.target.length z.tC, .string z.cat, .bool z.gone] 85)).cell (v := .int .i64 y.at_) 1 rfl
            have x1' := B3.out.cell (v := .int .i64 y.at_) 1 rfl
            have xl' := B3.out.lt
            go_wp2_with fail
            clear x1 x1' xl'
            refine at_world (fun W => Blk W q 85 #[.int .i64 y.no, .int .i64 y.at_, .int .i64 y.known, .int .i64 y.lang, .slice y.sA y.source.length y.sC, .slice y.tA y.target.length y.tC, .string y.cat, .bool y.gone] ∧ Below w.heap.size w W ∧ (∃ n cnt, n ≤ k ∧ MapG Tryz.prog 141 litK okK W mb n (tmV (lastT lang at_ known (l.take k))) cnt)) ⟨B3.out.alloc _, kalloc HB3.out _, by obtain ⟨n, cnt, h1, h2⟩ := HM3.out; exact ⟨n, cnt, h1, h2.alloc _⟩⟩ ?_
            clear B3 HB3 HM3
            rintro W3 ⟨b3, hb3, n, cnt, hn, hM⟩
            have v0 := b3.cell (v := (.int .i64 y.no)) 0 rfl
            have v1 := b3.cell (v := (.int .i64 y.at_)) 1 rfl
            have v2 := b3.cell (v := (.int .i64 y.known)) 2 rfl
            have v3 := b3.cell (v := (.int .i64 y.lang)) 3 rfl
            have v4 := b3.cell (v := (.slice y.sA y.source.length y.sC)) 4 rfl
            have v5 := b3.cell (v := (.slice y.tA y.target.length y.tC)) 5 rfl
            have v6 := b3.cell (v := (.string y.cat)) 6 rfl
            have v7 := b3.cell (v := (.bool y.gone)) 7 rfl
            have vl := b3.lt
            have hqm : some q ≠ some mb := fun e => hM.notcells b3 (Option.some.inj e)
            have HBd := hide hb3.drew
            have HMd := hide (hM.bel (Below.refl _ _).drew)
            clear b3 hb3 hM
            go_region_held3 (fun w' => w'.cell? ⟨q, 0, none⟩ = some (.int .i64 y.no) ∧ w'.cell? ⟨q, 1, none⟩ = some (.int .i64 y.at_) ∧ w'.cell? ⟨q, 2, none⟩ = some (.int .i64 y.known) ∧ w'.cell? ⟨q, 3, none⟩ = some (.int .i64 y.lang) ∧ w'.cell? ⟨q, 4, none⟩ = some (.slice y.sA y.source.length y.sC) ∧ w'.cell? ⟨q, 5, none⟩ = some (.slice y.tA y.target.length y.tC) ∧ w'.cell? ⟨q, 6, none⟩ = some (.string y.cat) ∧ w'.cell? ⟨q, 7, none⟩ = some (.bool y.gone))
              (first | exact ⟨v0, v1, v2, v3, v4, v5, v6, v7⟩ | exact ⟨s0, s1, s2, s3, s4, s5, s6, s7⟩ | exact ⟨r0, r1, r2, r3, r4, r5, r6, r7⟩ | go_keep)
              (first
                | (go_at_call 71
                   refine (KA.out _ HBd.out).mono ?_
                   rintro e w4 ⟨rfl, hb4⟩
                   have s0 := (hb4.cell (p := ⟨q, 0, none⟩) vl).trans v0
                   have s1 := (hb4.cell (p := ⟨q, 1, none⟩) vl).trans v1
                   have s2 := (hb4.cell (p := ⟨q, 2, none⟩) vl).trans v2
                   have s3 := (hb4.cell (p := ⟨q, 3, none⟩) vl).trans v3
                   have s4 := (hb4.cell (p := ⟨q, 4, none⟩) vl).trans v4
                   have s5 := (hb4.cell (p := ⟨q, 5, none⟩) vl).trans v5
                   have s6 := (hb4.cell (p := ⟨q, 6, none⟩) vl).trans v6
                   have s7 := (hb4.cell (p := ⟨q, 7, none⟩) vl).trans v7
                   obtain ⟨w5, e5, hM5, hg5⟩ := (HMd.out.bel hb4).put keyK Tryz.underlying138 (by unfold maxLen; omega) (right_key HRY.out) (termV y)
                   simp only [termV] at e5
                   have r0 := gcell hg5 (Nat.lt_of_lt_of_le vl hb4.size) hqm s0
                   have r1 := gcell hg5 (Nat.lt_of_lt_of_le vl hb4.size) hqm s1
                   have r2 := gcell hg5 (Nat.lt_of_lt_of_le vl hb4.size) hqm s2
                   have r3 := gcell hg5 (Nat.lt_of_lt_of_le vl hb4.size) hqm s3
                   have r4 := gcell hg5 (Nat.lt_of_lt_of_le vl hb4.size) hqm s4
                   have r5 := gcell hg5 (Nat.lt_of_lt_of_le vl hb4.size) hqm s5
                   have r6 := gcell hg5 (Nat.lt_of_lt_of_le vl hb4.size) hqm s6
                   have r7 := gcell hg5 (Nat.lt_of_lt_of_le vl hb4.size) hqm s7
                   skip))
            rw [← tmV_upd, ← HF.out, ← HST.out] at hM5
            have HM5 : Hid (∃ n cnt, n ≤ k + 1 ∧ MapG Tryz.prog 141 litK okK w5 mb n (tmV (lastT lang at_ known (l.take (k + 1)))) cnt) := hide ⟨_, _, by omega, hM5⟩
            have HB5 := hide (Below.grown (kcall HBd.out hb4) hg5 (kcall HBd.out hb4).size (fun j hj => by cases hj; exact hmbw))
            clear v0 s0 r0 v1 s1 r1 v2 s2 r2 v3 s3 r3 v4 s4 r4 v5 s5 r5 v6 s6 r6 v7 s7 r7 e5 hM5 hg5 hb4 HBd HMd hqm vl
            go_wp2
            go_roundw
            case rel => exact ⟨k + 1, by omega, by go_num, HM5, HB5⟩
            case measure => simp [nI]; omega
          · have g5 : decide (z.at_ ≤ y.at_) = false := decide_eq_false hz
            have HF := hide (show stepK lang at_ known (lastT lang at_ known (l.take k)) y = lastT lang at_ known (l.take k) by
              unfold stepK
              rw [HU.out, HTB.out]
              show (if (true && decide (z.at_ ≤ y.at_)) = true then _ else _) = _
              rw [g5]; rfl)
            have HM5 : Hid (∃ n cnt, n ≤ k + 1 ∧ MapG Tryz.prog 141 litK okK (w3.alloc (.cells #[.int .i64 z.no, .int .i64 z.at_, .int .i64 z.known, .int .i64 z.lang, .slice z.sA z.source.length z.sC, .slice z.tA z.target.length z.tC, .string z.cat, .bool z.gone] 85)) mb n (tmV (lastT lang at_ known (l.take (k + 1)))) cnt) := hide (by
              obtain ⟨n, cnt, h1, h2⟩ := HM3.out
              rw [HST.out, HF.out]
              exact ⟨n, cnt, by omega, h2.alloc _⟩)
            have HB5 := hide (kalloc HB3.out (.cells #[.int .i64 z.no, .int .i64 z.at_, .int .i64 z.known, .int .i64 z.lang, .slice z.sA z.source.length z.sC, .slice z.tA z.target.length z.tC, .string z.cat, .bool z.gone] 85))
            have x1 := (B3.out.alloc (.cells #[.int .i64 z.no, .int .i64 z.at_, .int .i64 z.known, .int .i64 z.lang, .slice z.sA z.source.length z.sC, .slice z.tA z.target.length z.tC, .string z.cat, .bool z.gone] 85)).cell (v := .int .i64 y.at_) 1 rfl
            have x1' := B3.out.cell (v := .int .i64 y.at_) 1 rfl
            have xl' := B3.out.lt
            go_wp2
            go_roundw
            case rel => exact ⟨k + 1, by omega, by go_num, HM5, HB5⟩
            case measure => simp [nI]; omega
      · have HF := hide (show stepK lang at_ known (lastT lang at_ known (l.take k)) y = lastT lang at_ known (l.take k) by
          unfold stepK
          rw [if_neg (fun h => hu (by rw [Bool.and_eq_true] at h; exact h.1))])
        have HM5 : Hid (∃ n cnt, n ≤ k + 1 ∧ MapG Tryz.prog 141 litK okK (wr.alloc (.cells #[.int .i64 y.no, .int .i64 y.at_, .int .i64 y.known, .int .i64 y.lang, .slice y.sA y.source.length y.sC, .slice y.tA y.target.length y.tC, .string y.cat, .bool y.gone] 85)) mb n (tmV (lastT lang at_ known (l.take (k + 1)))) cnt) := hide (by
          obtain ⟨n, cnt, h1, h2⟩ := HM0.out
          rw [HST.out, HF.out]
          exact ⟨n, cnt, by omega, hW ▸ h2⟩)
        subst hW
        clear B0 HM0 HTO HF HST x0 x1 x2 x3 x4 x5 x6 x7 xl
        clear hq
        by_cases u1 : y.lang = lang
        · have u1' : (y.lang == lang) = true := by simpa using u1
          have g2 : (y.lang != lang) = false := by rw [bne, u1']; rfl
          by_cases u2 : y.at_ ≤ at_
          · have g3 : decide (at_ < y.at_) = false := decide_eq_false (by omega)
            have g4 : decide (known < y.known) = true := by
              refine decide_eq_true (Int.not_le.1 fun u3 => hu ?_)
              unfold useB
              rw [u1', decide_eq_true u2, decide_eq_true u3]; rfl
            clear u1 u2 hu
            go_wp2
            go_roundw
            case rel => exact ⟨k + 1, by omega, by go_num, HM5, HB0⟩
            case measure => simp [nI]; omega
          · have g3 : decide (at_ < y.at_) = true := decide_eq_true (by omega)
            clear u1 u2 hu
            go_wp2
            go_roundw
            case rel => exact ⟨k + 1, by omega, by go_num, HM5, HB0⟩
            case measure => simp [nI]; omega
        · have u1' : (y.lang == lang) = false := by simpa using u1
          have g2 : (y.lang != lang) = true := by rw [bne, u1']; rfl
          clear u1 hu
          go_wp2
          go_roundw
          case rel => exact ⟨k + 1, by omega, by go_num, HM5, HB0⟩
          case measure => simp [nI]; omega
    · obtain rfl : k = l.length := by omega
      rw [List.take_length] at HM
      have HSTD := hide (show standL lang at_ known l = l.filter (keepB (lastT lang at_ known l)) from rfl)
      generalize lastT lang at_ known l = M at *
      go_wp2
      clear hk hlt
      have hO0 : OwnL termC 8 85 wr w.heap.size (.slice none 0 0) ((l.take 0).filter (keepB M)) := OwnL.nil _ _ _ _ _
      go_loopw [8, 83] (fun v i wr => ∃ (k : Nat) (xs : List TermH), k ≤ l.length ∧ i = .int .i64 k ∧ xs.length ≤ k ∧ Hid (xs = (l.take k).filter (keepB M)) ∧ Hid (OwnL termC 8 85 wr w.heap.size v xs) ∧ Hid (∃ n cnt, MapG Tryz.prog 141 litK okK wr mb n (tmV M) cnt) ∧ Hid (Below w.heap.size w wr)) (fun _ i _ => l.length - (nI i).toNat)
      case atStart => exact ⟨0, [], Nat.zero_le _, rfl, Nat.le_refl _, hide rfl, hide hO0, hide (by obtain ⟨n, cnt, _, h⟩ := HM.out; exact ⟨n, cnt, h⟩), HB⟩
      case round =>
        clear HM HB hO0
        obtain ⟨k, xs, hk, rfl, hxl, HXS, HOX, HM, HB⟩ := hrel
        by_cases hlt : k < l.length
        · obtain ⟨y, b, off, hy, hdr, hA, hbw, c0, c1, c2, c3, c4, c5, c6, c7⟩ := term_at (HS.out.bel HB.out) hlt
          have hmem := List.mem_of_getElem? hy
          have hry := HRT.out y hmem
          subst hA
          have k0 := kalloc (Below.refl wr.heap.size wr) (.cells #[.int .i64 y.no, .int .i64 y.at_, .int .i64 y.known, .int .i64 y.lang, .slice y.sA y.source.length y.sC, .slice y.tA y.target.length y.tC, .string y.cat, .bool y.gone] 85)
          have B0 := Blk.new wr #[.int .i64 y.no, .int .i64 y.at_, .int .i64 y.known, .int .i64 y.lang, .slice y.sA y.source.length y.sC, .slice y.tA y.target.length y.tC, .string y.cat, .bool y.gone] 85
          have HB0 := hide (kcall HB.out k0)
          have HM0 : Hid (∃ n cnt, MapG Tryz.prog 141 litK okK (wr.alloc (.cells #[.int .i64 y.no, .int .i64 y.at_, .int .i64 y.known, .int .i64 y.lang, .slice y.sA y.source.length y.sC, .slice y.tA y.target.length y.tC, .string y.cat, .bool y.gone] 85)) mb n (tmV M) cnt) := hide (by obtain ⟨n, cnt, h2⟩ := HM.out; exact ⟨n, cnt, h2.alloc _⟩)
          have HO0 := hide (HOX.out.alloc (.cells #[.int .i64 y.no, .int .i64 y.at_, .int .i64 y.known, .int .i64 y.lang, .slice y.sA y.source.length y.sC, .slice y.tA y.target.length y.tC, .string y.cat, .bool y.gone] 85))
          have K71 := about71 y (wr.alloc (.cells #[.int .i64 y.no, .int .i64 y.at_, .int .i64 y.known, .int .i64 y.lang, .slice y.sA y.source.length y.sC, .slice y.tA y.target.length y.tC, .string y.cat, .bool y.gone] 85)) ((HO.out y hmem).bel HB0.out) hry
          simp only [termV] at K71
          replace K71 := hide K71
          have HFL := hide (show (l.take (k + 1)).filter (keepB M) = xs ++ (if keepB M y = true then [y] else []) by
            rw [take_of_get hy, List.filter_append, ← HXS.out]
            congr 1
            rw [List.filter_cons, List.filter_nil])
          have HKB := hide (show keepB M y = ((match M (keyT y) with | none => false | some z => z.no == y.no) && !y.gone) from rfl)
          obtain ⟨q, hq⟩ : ∃ q, q = wr.heap.size := ⟨_, rfl⟩
          obtain ⟨W, hW⟩ : ∃ W, W = wr.alloc (.cells #[.int .i64 y.no, .int .i64 y.at_, .int .i64 y.known, .int .i64 y.lang, .slice y.sA y.source.length y.sC, .slice y.tA y.target.length y.tC, .string y.cat, .bool y.gone] 85) := ⟨_, rfl⟩
          have HRY := hide hry
          clear k0 hry hdr HB HM HOX HXS
          rw [← hW] at B0 HB0 HM0 HO0 K71
          rw [← hq] at B0
          replace B0 := hide B0
          go_wp2_with fail
          rw [← hW, ← hq]
          clear hq
          refine K71.out.mono ?_
          rintro e w3 ⟨rfl, hb3⟩
          have B3 := hide (B0.out.bel hb3)
          have HB3 := hide (kcall HB0.out hb3)
          have HO3 := hide (HO0.out.bel hb3)
          have HM3 : Hid (∃ n cnt, MapG Tryz.prog 141 litK okK w3 mb n (tmV M) cnt) := hide (by obtain ⟨n, cnt, h2⟩ := HM0.out; exact ⟨n, cnt, h2.bel hb3⟩)
          have hlk : (Instr.lookup 138 (.map (some mb)) (keyV (keyT y)) true).run Tryz.prog w3 = .ok (.tuple #[(tmV M (keyT y)).getD termZ, .bool (tmV M (keyT y)).isSome]) w3 := by
            obtain ⟨n, cnt, h2⟩ := HM3.out
            exact h2.look_ok keyK Tryz.underlying138 (Tryz.zeroValue85 w3) (right_key HRY.out)
          unfold tmV at hlk
          clear hb3 HB0 HM0 HO0 K71 B0 hW
          cases hMk : M (keyT y) with
          | none =>
            rw [hMk] at hlk HKB
            simp only [Option.map_none, Option.getD_none, Option.isSome_none, termZ] at hlk
            have HF := hide (show (l.take (k + 1)).filter (keepB M) = xs by
              rw [HFL.out, HKB.out]; simp)
            have HB5 := hide (kalloc HB3.out (.cells #[.int .i64 0, .int .i64 0, .int .i64 0, .int .i64 0, .slice none 0 0, .slice none 0 0, .string ⟨#[]⟩, .bool false] 85))
            have HO5 := hide (HO3.out.alloc (.cells #[.int .i64 0, .int .i64 0, .int .i64 0, .int .i64 0, .slice none 0 0, .slice none 0 0, .string ⟨#[]⟩, .bool false] 85))
            have HM5 : Hid (∃ n cnt, MapG Tryz.prog 141 litK okK (w3.alloc (.cells #[.int .i64 0, .int .i64 0, .int .i64 0, .int .i64 0, .slice none 0 0, .slice none 0 0, .string ⟨#[]⟩, .bool false] 85)) mb n (tmV M) cnt) := hide (by obtain ⟨n, cnt, h2⟩ := HM3.out; exact ⟨n, cnt, h2.alloc _⟩)
            clear HB3 HO3 HM3 B3
            go_wp2
            go_roundw
            case rel => exact ⟨k + 1, xs, by omega, by go_num, by omega, hide HF.out.symm, HO5, HM5, HB5⟩
            case measure => simp [nI]; omega
          | some z =>
            rw [hMk] at hlk HKB
            simp only [Option.map_some, Option.getD_some, Option.isSome_some, termV] at hlk
            have HKB2 := hide (show keepB M y = ((z.no == y.no) && !y.gone) from HKB.out)
            have HB5 := hide (kalloc HB3.out (.cells #[.int .i64 z.no, .int .i64 z.at_, .int .i64 z.known, .int .i64 z.lang, .slice z.sA z.source.length z.sC, .slice z.tA z.target.length z.tC, .string z.cat, .bool z.gone] 85))
            have HO5 := hide (HO3.out.alloc (.cells #[.int .i64 z.no, .int .i64 z.at_, .int .i64 z.known, .int .i64 z.lang, .slice z.sA z.source.length z.sC, .slice z.tA z.target.length z.tC, .string z.cat, .bool z.gone] 85))
            have HM5 : Hid (∃ n cnt, MapG Tryz.prog 141 litK okK (w3.alloc (.cells #[.int .i64 z.no, .int .i64 z.at_, .int .i64 z.known, .int .i64 z.lang, .slice z.sA z.source.length z.sC, .slice z.tA z.target.length z.tC, .string z.cat, .bool z.gone] 85)) mb n (tmV M) cnt) := hide (by obtain ⟨n, cnt, h2⟩ := HM3.out; exact ⟨n, cnt, h2.alloc _⟩)
            have B5 := B3.out.alloc (.cells #[.int .i64 z.no, .int .i64 z.at_, .int .i64 z.known, .int .i64 z.lang, .slice z.sA z.source.length z.sC, .slice z.tA z.target.length z.tC, .string z.cat, .bool z.gone] 85)
            have xl' := B3.out.lt
            have x0 := B3.out.cell (v := (.int .i64 y.no)) 0 rfl
            have x1 := B3.out.cell (v := (.int .i64 y.at_)) 1 rfl
            have x2 := B3.out.cell (v := (.int .i64 y.known)) 2 rfl
            have x3 := B3.out.cell (v := (.int .i64 y.lang)) 3 rfl
            have x4 := B3.out.cell (v := (.slice y.sA y.source.length y.sC)) 4 rfl
            have x5 := B3.out.cell (v := (.slice y.tA y.target.length y.tC)) 5 rfl
            have x6 := B3.out.cell (v := (.string y.cat)) 6 rfl
            have x7 := B3.out.cell (v := (.bool y.gone)) 7 rfl
            have y0 := B5.cell (v := (.int .i64 y.no)) 0 rfl
            have y1 := B5.cell (v := (.int .i64 y.at_)) 1 rfl
            have y2 := B5.cell (v := (.int .i64 y.known)) 2 rfl
            have y3 := B5.cell (v := (.int .i64 y.lang)) 3 rfl
            have y4 := B5.cell (v := (.slice y.sA y.source.length y.sC)) 4 rfl
            have y5 := B5.cell (v := (.slice y.tA y.target.length y.tC)) 5 rfl
            have y6 := B5.cell (v := (.string y.cat)) 6 rfl
            have y7 := B5.cell (v := (.bool y.gone)) 7 rfl
            clear HB3 HO3 HM3 B3 HKB B5
            cases g1 : (z.no == y.no)
            · have HF := hide (show (l.take (k + 1)).filter (keepB M) = xs by
                rw [HFL.out, HKB2.out, g1]; simp)
              go_wp2
              go_roundw
              case rel => exact ⟨k + 1, xs, by omega, by go_num, by omega, hide HF.out.symm, HO5, HM5, HB5⟩
              case measure => simp [nI]; omega
            · cases g2 : y.gone
              · rw [g2] at x7 y7
                have HF := hide (show (l.take (k + 1)).filter (keepB M) = xs ++ [y] by
                  rw [HFL.out, HKB2.out, g1, g2]; rfl)
                have hsz := HB5.out.size
                have hlk2 : xs.length < 1024 := by omega
                have hg5 : ∀ g, u8.ownBlock = some g → w.heap.size ≤ g ∧ g ≠ mb := fun g hg => by
                  obtain ⟨h1, h2, cur, h3⟩ := HO5.out.blk hg
                  obtain ⟨n, cnt, h4⟩ := HM5.out
                  exact ⟨h1, h4.notcells ⟨h2, h3⟩⟩
                have SLY : Sl termC 8 ((w3.alloc (.cells #[.int .i64 z.no, .int .i64 z.at_, .int .i64 z.known, .int .i64 z.lang, .slice z.sA z.source.length z.sC, .slice z.tA z.target.length z.tC, .string z.cat, .bool z.gone] 85)).alloc (.cells #[.int .i64 y.no, .int .i64 y.at_, .int .i64 y.known, .int .i64 y.lang, .slice y.sA y.source.length y.sC, .slice y.tA y.target.length y.tC, .string y.cat, .bool false] 85)) (some ⟨w3.heap.size + 1, 0, none⟩) 1 [y] := Sl.one (Blk.new1 w3 _ _ 85) (by simp [termC, g2]) rfl (by decide) (by decide)
                have hrun := run_extend (P := Tryz.prog) (t := 27) (ty := 27) (f := termC) (base := w.heap.size) (l1 := xs) (l2 := [y]) Tryz.underlying27 HI.out hz0 hz1 hz2 rfl (by decide) (HO5.out.alloc (.cells #[.int .i64 y.no, .int .i64 y.at_, .int .i64 y.known, .int .i64 y.lang, .slice y.sA y.source.length y.sC, .slice y.tA y.target.length y.tC, .string y.cat, .bool false] 85)) SLY (fun x _ => one85 x)
                  (by simp only [List.length_cons, List.length_nil, maxLen]; omega) (by simp only [List.length_cons, List.length_nil]; omega) (by simp only [World.size_alloc] at hsz ⊢; omega)
                clear SLY
                go_wp2_with (at_builtin; refine wpList_append rfl (.tmp 107) (.tmp 109) 27 rfl rfl rfl hrun ?_)
                intro v' w' hO hg _
                have HO6 := hide hO
                have hbk := kalloc HB5.out (.cells #[.int .i64 y.no, .int .i64 y.at_, .int .i64 y.known, .int .i64 y.lang, .slice y.sA y.source.length y.sC, .slice y.tA y.target.length y.tC, .string y.cat, .bool false] 85)
                have HB6 := hide (Below.grown hbk hg hbk.size (fun g h => (hg5 g h).1))
                have HM6 : Hid (∃ n cnt, MapG Tryz.prog 141 litK okK w' mb n (tmV M) cnt) := hide (by obtain ⟨n, cnt, h2⟩ := HM5.out; exact ⟨n, cnt, (h2.alloc _).kept hg (fun e => (hg5 mb e.symm).2 rfl)⟩)
                clear hO hg hrun hbk hg5 hsz HO5 HM5 HB5
                go_wp2
                go_roundw
                case rel => exact ⟨k + 1, xs ++ [y], by omega, by go_num, by simp; omega, hide HF.out.symm, HO6, HM6, HB6⟩
                case measure => simp [nI]; omega
              · rw [g2] at x7 y7
                have HF := hide (show (l.take (k + 1)).filter (keepB M) = xs by
                  rw [HFL.out, HKB2.out, g1, g2]; simp)
                go_wp2
                go_roundw
                case rel => exact ⟨k + 1, xs, by omega, by go_num, by omega, hide HF.out.symm, HO5, HM5, HB5⟩
                case measure => simp [nI]; omega
        · obtain rfl : k = l.length := by omega
          have hx := HXS.out
          rw [List.take_length, ← HSTD.out] at hx
          have HOF := HOX.out
          rw [hx] at HOF
          replace HOF := hide HOF
          clear hx HOX HXS
          go_wp2
          exact bodyPost_ret (v := .tuple #[u8, .int .i64 0]) (by simp [results, Tryz.results32, go_sem]) rfl ⟨HGOOD.out _ _ HR.out HOF.out, HB.out⟩
end Go.Proofs.YtkfdafeonhnloaaGreatDoor
namespace Go.Mine.C
open Go.RowKit Go.Mine
def idxGo (s : Str) : List Str → Int → Int
 | [], _ => -1
 | x :: l, k => if (s.toList == x.toList) = true then k else idxGo s l (k + 1)
def idxL (l : List Str) (s : Str) : Int := idxGo s l 0
end Go.Mine.C
namespace Go.Proofs.YtkfdafeonhnloaaGreatDoor
open Go.RowKit Go.Shelf Go.Mine Go.Mine.C
attribute [local go_sem] Oper.semAt_some
set_option maxRecDepth 100000 in
theorem index78 (A : Option Addr) (c : Nat) (l : List ByteArray) (s : ByteArray) (w : World) (hS : Sl sc 1 w A c l) : Calls Tryz.prog 78 #[.slice A l.length c, .string s] w fun e w' => e = .returned (.int .i64 (idxL l s)) ∧ w = w' := by
 have hle := hS.le
 have hmx := hS.max
 have HS := hide hS
 have H0 := hide (show idxL l s = idxGo s (l.drop 0) (0 : Nat) from rfl)
 generalize idxL l s = R at *
 clear hS
 go_enter Tryz.func78, Tryz.ntmps78
 go_wp2
 go_loopw [8] (fun i wr => ∃ k : Nat, k ≤ l.length ∧ i = .int .i64 k ∧ w = wr ∧ Hid (R = idxGo s (l.drop k) (k : Nat))) (fun i _ => l.length - (nI i).toNat)
 case atStart => exact ⟨0, Nat.zero_le _, rfl, rfl, H0⟩
 case round =>
  clear H0
  obtain ⟨k, hk, rfl, rfl, H⟩ := hrel
  by_cases hlt : k < l.length
  ·obtain ⟨x, b, off, hx, hdr, hA, hbw, c0⟩ := Sl.sc_at HS.out hlt
   subst hA
   have h := H.out
   rw [hdr, idxGo] at h
   cases g : (s.toList == x.toList)
   ·rw [g, if_neg (by decide)] at h
    have H2 := hide (show R = idxGo s (l.drop (k + 1)) ((k + 1 : Nat) : Int) from h)
    clear h H hx hdr
    go_wp2
    go_roundw
    case rel => exact ⟨k + 1, by omega, by go_num, trivial, H2⟩
    case measure => simp [nI]; omega
   ·rw [g, if_pos rfl] at h
    replace h := hide h
    clear H hx hdr
    go_wp2
    go_ret
    exact ⟨ret_int h.out.symm, rfl⟩
  ·obtain rfl : k = l.length := by omega
   have h := H.out
   rw [List.drop_of_length_le (Nat.le_refl _), idxGo] at h
   replace h := hide h
   clear H
   go_wp2
   go_ret
   exact ⟨ret_int h.out.symm, rfl⟩
end Go.Proofs.YtkfdafeonhnloaaGreatDoor
