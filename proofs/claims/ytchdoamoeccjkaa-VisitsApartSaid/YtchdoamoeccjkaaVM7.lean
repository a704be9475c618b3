/-
  visits: Spans and Present of both, whatever the arguments.
  visits: the reference's SameInts, SameSpans, Few; the statements' right.
  hansardlaw52.sane answers true.
-/
import Derived.Test.YtchdoamoeccjkaaVM6
import Derived.Test.YtchdoamoeccjkaaVM5
namespace Go.Proofs.Ytchdoamoeccjkaa
open Go.RowKit Go.Shelf Go.Mine Go.Mine.V
open Go.Mine.S (Sp addL)
attribute [local go_sem] Oper.semAt_some

def argSL (who lang : Int) : Bool := inB who 100000 && inB lang 32
def argLT (lang t : Int) : Bool := inB lang 32 && inB t 1099511627776
def spanL (l : List Vi) (who lang : Int) : List Sp := if chk l = 0 ∧ argSL who lang = true then spans who lang l else []
def spanE (l : List Vi) (who lang : Int) : Int := if chk l = 0 then (if argSL who lang = true then 0 else 1) else chk l
def presL (l : List Vi) (lang t : Int) : List Int := if chk l = 0 ∧ argLT lang t = true then pres l lang t else []
def presE (l : List Vi) (lang t : Int) : Int := if chk l = 0 then (if argLT lang t = true then 0 else 1) else chk l
/-- a slice that reads so, and a number -/
def SlE {α : Type} (f : α → List Value) (sz : Nat) (L : List α) (E : Int) (w : World) (e : Ending) (w' : World) : Prop :=
  ∃ A' c', e = .returned (.tuple #[.slice A' L.length c', .int .i64 E]) ∧ Sl f sz w' A' c' L ∧ Below w.heap.size w w'
theorem SlE.nil {α : Type} {f : α → List Value} {sz : Nat} {E : Int} {w w' : World} (hb : Below w.heap.size w w') : SlE f sz ([] : List α) E w (.returned (.tuple #[.slice none 0 0, .int .i64 E])) w' :=
  ⟨none, 0, rfl, Sl.nil (by decide), hb⟩
theorem span_ok {l : List Vi} {who lang : Int} (hz : chk l = 0) (ha : argSL who lang = true) : spanL l who lang = spans who lang l ∧ spanE l who lang = 0 := by simp [spanL, spanE, hz, ha]
theorem span_arg {l : List Vi} {who lang : Int} (hz : chk l = 0) (ha : argSL who lang = false) : spanL l who lang = [] ∧ spanE l who lang = 1 := by simp [spanL, spanE, hz, ha]
theorem span_bad {l : List Vi} {who lang : Int} (hz : chk l ≠ 0) : spanL l who lang = [] ∧ spanE l who lang = chk l := by simp [spanL, spanE, hz]
theorem pres_ok {l : List Vi} {lang t : Int} (hz : chk l = 0) (ha : argLT lang t = true) : presL l lang t = pres l lang t ∧ presE l lang t = 0 := by simp [presL, presE, hz, ha]
theorem pres_arg {l : List Vi} {lang t : Int} (hz : chk l = 0) (ha : argLT lang t = false) : presL l lang t = [] ∧ presE l lang t = 1 := by simp [presL, presE, hz, ha]
theorem pres_bad {l : List Vi} {lang t : Int} (hz : chk l ≠ 0) : presL l lang t = [] ∧ presE l lang t = chk l := by simp [presL, presE, hz]
theorem Present22_any (A : Option Addr) (c : Nat) (l : List Vi) (lang t : Int) (w : World) (hS : Sl viC 4 w A c l) (hI : ∀ x ∈ l, ViS x) :
    Calls Try.prog 22 #[.slice A l.length c, .int .i64 lang, .int .i64 t] w (SlE ic 1 (presL l lang t) (presE l lang t) w) := by
  by_cases hz : chk l = 0
  · rcases Bool.eq_false_or_eq_true (argLT lang t) with ha | ha
    · obtain ⟨e1, e2⟩ := pres_ok hz ha
      have hab := ha
      simp only [argLT, Bool.and_eq_true] at hab
      refine (Present22_good A c l lang t w hS hI hz hab.1 hab.2).mono ?_
      rintro e w' ⟨v, rfl, hO, hb⟩
      obtain ⟨A', c', rfl, hS'⟩ := hO.sl
      rw [e1, e2]
      exact ⟨A', c', rfl, hS', hb⟩
    · obtain ⟨e1, e2⟩ := pres_arg hz ha
      rw [e1, e2]
      have KC := hide (by have := Check_any A c l w hS hI; rw [hz] at this; exact this)
      have hc2 : inB lang 32 = false ∨ (inB lang 32 = true ∧ inB t 1099511627776 = false) := by
        rw [argLT] at ha; cases hq : inB lang 32 <;> simp_all
      clear hz ha e1 e2 hS
      rcases hc2 with h1 | ⟨h1, h2⟩
      all_goals
        go_enter Try.func22, Try.ntmps22
        go_wp2_with fail
        refine KC.out.mono ?_
        rintro e w1 ⟨rfl, hb⟩
        have HB := hide hb
        clear hb KC
        go_wp2_with (first | (go_at_call 47; with_reducible refine (within_is h1 _).mono ?_; rintro e w' ⟨rfl, rfl⟩) | (go_at_call 47; with_reducible refine (within_is h2 _).mono ?_; rintro e w' ⟨rfl, rfl⟩))
        exact bodyPost_ret (v := .tuple #[.slice none 0 0, .int .i64 1]) (by simp [results, Try.results22, go_sem]) rfl (SlE.nil HB.out)
  · obtain ⟨e1, e2⟩ := pres_bad (lang := lang) (t := t) hz
    rw [e1, e2]
    have KC := hide (Check_any A c l w hS hI)
    generalize chk l = C at *
    have gc : (C != 0) = true := by simp [hz]
    clear hz e1 e2 hS
    go_enter Try.func22, Try.ntmps22
    go_wp2_with fail
    refine KC.out.mono ?_
    rintro e w1 ⟨rfl, hb⟩
    have HB := hide hb
    clear hb KC
    go_wp2
    exact bodyPost_ret (v := .tuple #[.slice none 0 0, .int .i64 C]) (by simp [results, Try.results22, go_sem]) rfl (SlE.nil HB.out)
theorem Present23_any (A : Option Addr) (c : Nat) (l : List Vi) (lang t : Int) (w : World) (hS : Sl viC 4 w A c l) :
    Calls Try.prog 23 #[.slice A l.length c, .int .i64 lang, .int .i64 t] w (SlE ic 1 (presL l lang t) (presE l lang t) w) := by
  by_cases hz : chk l = 0
  · rcases Bool.eq_false_or_eq_true (argLT lang t) with ha | ha
    · obtain ⟨e1, e2⟩ := pres_ok hz ha
      have hab := ha
      simp only [argLT, Bool.and_eq_true] at hab
      rw [e1, e2]
      exact Present23_good A c l lang t w hS hz hab.1 hab.2
    · obtain ⟨e1, e2⟩ := pres_arg hz ha
      rw [e1, e2]
      have KC := hide (by have := Check19_any A c l w hS; rw [hz] at this; exact this)
      have hc2 : inB lang 32 = false ∨ (inB lang 32 = true ∧ inB t 1099511627776 = false) := by
        rw [argLT] at ha; cases hq : inB lang 32 <;> simp_all
      clear hz ha e1 e2 hS
      rcases hc2 with h1 | ⟨h1, h2⟩
      all_goals
        go_enter Try.func23, Try.ntmps23
        go_wp2_with fail
        refine KC.out.mono ?_
        rintro e w1 ⟨rfl, hb⟩
        have HB := hide hb
        clear hb KC
        go_wp2_with (first | (go_at_call 49; with_reducible refine (within49_is h1 _).mono ?_; rintro e w' ⟨rfl, rfl⟩) | (go_at_call 49; with_reducible refine (within49_is h2 _).mono ?_; rintro e w' ⟨rfl, rfl⟩))
        exact bodyPost_ret (v := .tuple #[.slice none 0 0, .int .i64 1]) (by simp [results, Try.results23, go_sem]) rfl (SlE.nil HB.out)
  · obtain ⟨e1, e2⟩ := pres_bad (lang := lang) (t := t) hz
    rw [e1, e2]
    have KC := hide (Check19_any A c l w hS)
    generalize chk l = C at *
    have gc : (C != 0) = true := by simp [hz]
    clear hz e1 e2 hS
    go_enter Try.func23, Try.ntmps23
    go_wp2_with fail
    refine KC.out.mono ?_
    rintro e w1 ⟨rfl, hb⟩
    have HB := hide hb
    clear hb KC
    go_wp2
    exact bodyPost_ret (v := .tuple #[.slice none 0 0, .int .i64 C]) (by simp [results, Try.results23, go_sem]) rfl (SlE.nil HB.out)
theorem Spans21_any (A : Option Addr) (c : Nat) (l : List Vi) (who lang : Int) (w : World) (hS : Sl viC 4 w A c l) :
    Calls Try.prog 21 #[.slice A l.length c, .int .i64 who, .int .i64 lang] w (SlE spc 2 (spanL l who lang) (spanE l who lang) w) := by
  by_cases hz : chk l = 0
  · rcases Bool.eq_false_or_eq_true (argSL who lang) with ha | ha
    · obtain ⟨e1, e2⟩ := span_ok hz ha
      have hab := ha
      simp only [argSL, Bool.and_eq_true] at hab
      refine (Spans21_good A c l who lang w hS hz hab.1 hab.2).mono ?_
      rintro e w' ⟨v, rfl, hO, hb⟩
      rw [← spans_ref (chk_go hz).1] at hO
      obtain ⟨A', c', rfl, hS'⟩ := hO.sl
      rw [e1, e2]
      exact ⟨A', c', rfl, hS', hb⟩
    · obtain ⟨e1, e2⟩ := span_arg hz ha
      rw [e1, e2]
      have KC := hide (by have := Check19_any A c l w hS; rw [hz] at this; exact this)
      have hc2 : inB who 100000 = false ∨ (inB who 100000 = true ∧ inB lang 32 = false) := by
        rw [argSL] at ha; cases hq : inB who 100000 <;> simp_all
      clear hz ha e1 e2 hS
      rcases hc2 with h1 | ⟨h1, h2⟩
      all_goals
        go_enter Try.func21, Try.ntmps21
        go_wp2_with fail
        refine KC.out.mono ?_
        rintro e w1 ⟨rfl, hb⟩
        have HB := hide hb
        clear hb KC
        go_wp2_with (first | (go_at_call 49; with_reducible refine (within49_is h1 _).mono ?_; rintro e w' ⟨rfl, rfl⟩) | (go_at_call 49; with_reducible refine (within49_is h2 _).mono ?_; rintro e w' ⟨rfl, rfl⟩))
        exact bodyPost_ret (v := .tuple #[.slice none 0 0, .int .i64 1]) (by simp [results, Try.results21, go_sem]) rfl (SlE.nil HB.out)
  · obtain ⟨e1, e2⟩ := span_bad (who := who) (lang := lang) hz
    rw [e1, e2]
    have KC := hide (Check19_any A c l w hS)
    generalize chk l = C at *
    have gc : (C != 0) = true := by simp [hz]
    clear hz e1 e2 hS
    go_enter Try.func21, Try.ntmps21
    go_wp2_with fail
    refine KC.out.mono ?_
    rintro e w1 ⟨rfl, hb⟩
    have HB := hide hb
    clear hb KC
    go_wp2
    exact bodyPost_ret (v := .tuple #[.slice none 0 0, .int .i64 C]) (by simp [results, Try.results21, go_sem]) rfl (SlE.nil HB.out)
theorem Spans20_any (A : Option Addr) (c : Nat) (l : List Vi) (who lang : Int) (w : World) (hS : Sl viC 4 w A c l) (hI : ∀ x ∈ l, ViS x) :
    Calls Try.prog 20 #[.slice A l.length c, .int .i64 who, .int .i64 lang] w (SlE spc 2 (spanL l who lang) (spanE l who lang) w) := by
  by_cases hz : chk l = 0
  · rcases Bool.eq_false_or_eq_true (argSL who lang) with ha | ha
    · obtain ⟨e1, e2⟩ := span_ok hz ha
      have hab := ha
      simp only [argSL, Bool.and_eq_true] at hab
      refine (Spans20_good A c l who lang w hS hI hz hab.1 hab.2).mono ?_
      rintro e w' ⟨v, rfl, hO, hb⟩
      obtain ⟨A', c', rfl, hS'⟩ := hO.sl
      rw [e1, e2]
      exact ⟨A', c', rfl, hS', hb⟩
    · obtain ⟨e1, e2⟩ := span_arg hz ha
      rw [e1, e2]
      have KC := hide (fun w (hS : Sl viC 4 w A c l) => by have := Check_any A c l w hS hI; rw [hz] at this; exact this)
      have hc2 : inB who 100000 = false ∨ (inB who 100000 = true ∧ inB lang 32 = false) := by
        rw [argSL] at ha; cases hq : inB who 100000 <;> simp_all
      have b5 := (Blk.new w #[.int .i64 lang] 3).alloc (.cells #[.slice none 0 0] 30)
      have b6 : Blk ((w.alloc (.cells #[.int .i64 lang] 3)).alloc (.cells #[.slice none 0 0] 30)) (w.heap.size + 1) 30 #[.slice none 0 0] := Blk.new' (by simp)
      have hb2 : Below w.heap.size w ((w.alloc (.cells #[.int .i64 lang] 3)).alloc (.cells #[.slice none 0 0] 30)) := kalloc (kalloc (Below.refl _ _) _) _
      clear hz ha e1 e2
      rcases hc2 with h1 | ⟨h1, h2⟩
      all_goals
        go_enter Try.func20, Try.ntmps20
        go_wp2_with fail
        generalize (w.alloc (.cells #[.int .i64 lang] 3)).alloc (.cells #[.slice none 0 0] 30) = w2 at *
        refine (KC.out w2 (hS.bel hb2)).mono ?_
        rintro e w1 ⟨rfl, hb⟩
        have d5 := (b5.bel hb).cell (v := .int .i64 lang) 0 rfl
        have b7 := b6.bel hb
        have d6 := b7.cell (v := .slice none 0 0) 0 rfl
        have f6 := b7.thaw 0
        have HB := hide ((kcall hb2 hb).setCell (p := ⟨w.heap.size + 1, 0, none⟩) (by dsimp only; omega) (.slice none 0 0))
        have o6 := (b7.one.set (.slice none 0 0)).cell
        clear hb KC hS b5 b6 b7 hb2
        go_wp2_with (first | (go_at_call 47; with_reducible refine (within_is h1 _).mono ?_; rintro e w' ⟨rfl, rfl⟩) | (go_at_call 47; with_reducible refine (within_is h2 _).mono ?_; rintro e w' ⟨rfl, rfl⟩))
        exact bodyPost_ret (v := .tuple #[.slice none 0 0, .int .i64 1]) (by simp [results, Try.results20, go_sem, o6]) rfl (SlE.nil HB.out)
  · obtain ⟨e1, e2⟩ := span_bad (who := who) (lang := lang) hz
    rw [e1, e2]
    have KC := hide (fun w (hS : Sl viC 4 w A c l) => Check_any A c l w hS hI)
    generalize chk l = C at *
    have gc : (C != 0) = true := by simp [hz]
    have b6 : Blk ((w.alloc (.cells #[.int .i64 lang] 3)).alloc (.cells #[.slice none 0 0] 30)) (w.heap.size + 1) 30 #[.slice none 0 0] := Blk.new' (by simp)
    have hb2 : Below w.heap.size w ((w.alloc (.cells #[.int .i64 lang] 3)).alloc (.cells #[.slice none 0 0] 30)) := kalloc (kalloc (Below.refl _ _) _) _
    clear hz e1 e2
    go_enter Try.func20, Try.ntmps20
    go_wp2_with fail
    generalize (w.alloc (.cells #[.int .i64 lang] 3)).alloc (.cells #[.slice none 0 0] 30) = w2 at *
    refine (KC.out w2 (hS.bel hb2)).mono ?_
    rintro e w1 ⟨rfl, hb⟩
    have b7 := b6.bel hb
    have d6 := b7.cell (v := .slice none 0 0) 0 rfl
    have f6 := b7.thaw 0
    have HB := hide ((kcall hb2 hb).setCell (p := ⟨w.heap.size + 1, 0, none⟩) (by dsimp only; omega) (.slice none 0 0))
    have o6 := (b7.one.set (.slice none 0 0)).cell
    clear hb KC hS b6 b7 hb2
    go_wp2
    exact bodyPost_ret (v := .tuple #[.slice none 0 0, .int .i64 C]) (by simp [results, Try.results20, go_sem, o6]) rfl (SlE.nil HB.out)
end Go.Proofs.Ytchdoamoeccjkaa
namespace Go.Proofs.Ytchdoamoeccjkaa
open Go.RowKit Go.Shelf Go.Mine Go.Mine.V
open Go.Mine.S (Sp addL)
attribute [local go_sem] Oper.semAt_some

theorem Sl.sp_two {w wr : World} {A : Option Addr} {c : Nat} {l : List Sp} (h : Sl spc 2 w A c l) (hb : Below w.heap.size w wr) {k : Nat} (hk : k < l.length) :
    ∃ x b off, l[k]? = some x ∧ l.drop k = x :: l.drop (k + 1) ∧ A = some ⟨b, off, none⟩ ∧ b < w.heap.size ∧ wr.cell? ⟨b, off + k * 2, none⟩ = some (.int .i64 x.1) ∧ wr.cell? ⟨b, off + k * 2 + 1, none⟩ = some (.int .i64 x.2) := by
  obtain ⟨x, b, off, hx, hd, e, hbw, hc⟩ := h.at_ hk
  exact ⟨x, b, off, hx, hd, e, hbw, (hb.cell (p := ⟨b, off + k * 2, none⟩) hbw).trans (hc 0 _ rfl), (hb.cell (p := ⟨b, off + k * 2 + 1, none⟩) hbw).trans (hc 1 _ rfl)⟩
set_option maxHeartbeats 1000000 in
theorem sameInts25_any (A B : Option Addr) (c d : Nat) (la lb : List Int) (w : World) (hA : Sl ic 1 w A c la) (hB : Sl ic 1 w B d lb) :
    Calls Try.prog 25 #[.slice A la.length c, .slice B lb.length d] w fun e w' => e = .returned (.bool (decide (la = lb))) ∧ Below w.heap.size w w' := by
  have a1 := hA.le
  have a2 := hA.max
  have b1 := hB.le
  have b2 := hB.max
  by_cases hl : la.length = lb.length
  · have g1 : ((la.length : Int) != (lb.length : Int)) = false := by simp [hl]
    have HL := hide hl
    clear hl
    go_enter Try.func25, Try.ntmps25
    go_wp2
    go_loopw [5] (fun i wr => ∃ (k : Nat), k ≤ la.length ∧ i = .int .i64 k ∧ la.take k = lb.take k ∧ Below w.heap.size w wr) (fun i _ => la.length - (nI i).toNat)
    case atStart => exact ⟨0, Nat.zero_le _, rfl, rfl, Below.refl _ _⟩
    case round =>
      obtain ⟨k, hk, rfl, ht, hb⟩ := hrel
      by_cases hlt : k < la.length
      · obtain ⟨x, ba, oa, hx, _, rfl, _, p1⟩ := Sl.ic_at (hA.bel hb) hlt
        obtain ⟨y, bb, ob, hy, _, rfl, _, q1⟩ := Sl.ic_at (hB.bel hb) (show k < lb.length by rw [← HL.out]; exact hlt)
        have hkb : (k : Int) < lb.length := by have := HL.out; omega
        have HT := hide ht
        have HX := hide hx
        have HY := hide hy
        clear ht hx hy hA hB
        by_cases hxy : x = y
        · subst hxy
          go_wp2_with fail
          refine wp_still_all (by kernel_rfl) (by kernel_rfl) ?_
          repeat ((with_reducible refine wpStill_step (fun K hK => ?_)); go_simp; (try go_bits); (with_reducible refine hK _ ?_); clear hK K)
          (with_reducible refine wpStill_nil ?_)
          go_wp2
          go_roundw
          case rel => exact ⟨k + 1, by omega, by go_num, by rw [take_of_get HX.out, take_of_get HY.out, HT.out], hb.drew⟩
          case measure => simp [nI]; omega
        · have hne : la ≠ lb := by
            intro e; subst e
            have := HX.out.symm.trans HY.out
            exact hxy (by simpa using this)
          have HN := hide hne
          clear hne
          go_wp2_with fail
          refine wp_still_all (by kernel_rfl) (by kernel_rfl) ?_
          repeat ((with_reducible refine wpStill_step (fun K hK => ?_)); go_simp; (try go_bits); (with_reducible refine hK _ ?_); clear hK K)
          (with_reducible refine wpStill_nil ?_)
          go_wp2
          go_ret
          exact ⟨ret_bool (by simp [HN.out]), hb.drew⟩
      · have HT := hide ht
        clear ht
        go_wp2
        go_ret
        refine ⟨ret_bool ?_, hb⟩
        have h := HT.out
        rw [List.take_of_length_le (by omega), List.take_of_length_le (by have := HL.out; omega)] at h
        simp [h]
  · have g1 : ((la.length : Int) != (lb.length : Int)) = true := by rw [bne_iff_ne]; omega
    go_enter Try.func25, Try.ntmps25
    go_wp2
    go_ret
    exact ⟨ret_bool (by simp; intro e; exact hl (by rw [e])), Below.refl _ _⟩
set_option maxHeartbeats 1000000 in
theorem sameSpans24_any (A B : Option Addr) (c d : Nat) (la lb : List (Int × Int)) (w : World) (hA : Sl spc 2 w A c la) (hB : Sl spc 2 w B d lb) :
    Calls Try.prog 24 #[.slice A la.length c, .slice B lb.length d] w fun e w' => e = .returned (.bool (decide (la = lb))) ∧ Below w.heap.size w w' := by
  have a1 := hA.le
  have a2 := hA.max
  have b1 := hB.le
  have b2 := hB.max
  by_cases hl : la.length = lb.length
  · have g1 : ((la.length : Int) != (lb.length : Int)) = false := by simp [hl]
    have HL := hide hl
    clear hl
    go_enter Try.func24, Try.ntmps24
    go_wp2
    go_loopw [5] (fun i wr => ∃ (k : Nat), k ≤ la.length ∧ i = .int .i64 k ∧ la.take k = lb.take k ∧ Below w.heap.size w wr) (fun i _ => la.length - (nI i).toNat)
    case atStart => exact ⟨0, Nat.zero_le _, rfl, rfl, Below.refl _ _⟩
    case round =>
      obtain ⟨k, hk, rfl, ht, hb⟩ := hrel
      by_cases hlt : k < la.length
      · obtain ⟨x, ba, oa, hx, _, rfl, _, p1, p2⟩ := Sl.sp_two hA hb hlt
        obtain ⟨y, bb, ob, hy, _, rfl, _, q1, q2⟩ := Sl.sp_two hB hb (show k < lb.length by rw [← HL.out]; exact hlt)
        have hkb : (k : Int) < lb.length := by have := HL.out; omega
        have HT := hide ht
        have HX := hide hx
        have HY := hide hy
        clear ht hx hy hA hB
        by_cases hxy : x = y
        · subst hxy
          go_wp2_with fail
          refine wp_still_all (by kernel_rfl) (by kernel_rfl) ?_
          repeat ((with_reducible refine wpStill_step (fun K hK => ?_)); go_simp; (try go_bits); (with_reducible refine hK _ ?_); clear hK K)
          (with_reducible refine wpStill_nil ?_)
          go_wp2
          go_roundw
          case rel => exact ⟨k + 1, by omega, by go_num, by rw [take_of_get HX.out, take_of_get HY.out, HT.out], hb.drew⟩
          case measure => simp [nI]; omega
        · have hne : la ≠ lb := by
            intro e; subst e
            have := HX.out.symm.trans HY.out
            exact hxy (by simpa using this)
          have hn : ¬ (x.1 = y.1 ∧ x.2 = y.2) := fun h => hxy (Prod.ext h.1 h.2)
          have HN := hide hne
          obtain ⟨x1, x2⟩ := x
          obtain ⟨y1, y2⟩ := y
          dsimp only at p1 p2 q1 q2 hn
          clear hxy hne
          by_cases h1 : x1 = y1
          · subst h1
            have h2 : ¬ x2 = y2 := fun h => hn ⟨rfl, h⟩
            clear hn
            go_wp2_with fail
            refine wp_still_all (by kernel_rfl) (by kernel_rfl) ?_
            repeat ((with_reducible refine wpStill_step (fun K hK => ?_)); go_simp; (try go_bits); (with_reducible refine hK _ ?_); clear hK K)
            (with_reducible refine wpStill_nil ?_)
            go_wp2
            go_ret
            exact ⟨ret_bool (by simp [HN.out]), hb.drew⟩
          · clear hn
            go_wp2_with fail
            refine wp_still_all (by kernel_rfl) (by kernel_rfl) ?_
            repeat ((with_reducible refine wpStill_step (fun K hK => ?_)); go_simp; (try go_bits); (with_reducible refine hK _ ?_); clear hK K)
            (with_reducible refine wpStill_nil ?_)
            go_wp2
            go_ret
            exact ⟨ret_bool (by simp [HN.out]), hb.drew⟩
      · have HT := hide ht
        clear ht
        go_wp2
        go_ret
        refine ⟨ret_bool ?_, hb⟩
        have h := HT.out
        rw [List.take_of_length_le (by omega), List.take_of_length_le (by have := HL.out; omega)] at h
        simp [h]
  · have g1 : ((la.length : Int) != (lb.length : Int)) = true := by rw [bne_iff_ne]; omega
    go_enter Try.func24, Try.ntmps24
    go_wp2
    go_ret
    exact ⟨ret_bool (by simp; intro e; exact hl (by rw [e])), Below.refl _ _⟩
def few (l : List Vi) : Bool := decide (l.length ≤ 40) || (decide (4096 < l.length) && decide (l.length ≤ 4200))
theorem few15_any (A : Option Addr) (c : Nat) (l : List Vi) (w : World) (hS : Sl viC 4 w A c l) :
    Calls Try.prog 15 #[.slice A l.length c] w fun e w' => e = .returned (.bool (few l)) ∧ w = w' := by
  have hlc := hS.le
  have hc := hS.max
  clear hS
  by_cases h1 : l.length ≤ 40
  · have g1 : decide ((l.length : Int) ≤ 40) = true := by simp; omega
    go_enter Try.func15, Try.ntmps15
    go_wp2
    go_ret
    exact ⟨ret_bool (by simp [few, h1]), rfl⟩
  · have g1 : decide ((l.length : Int) ≤ 40) = false := by simp; omega
    by_cases h2 : 4096 < l.length
    · have g2 : decide ((4096 : Int) < l.length) = true := by simp; omega
      by_cases h3 : l.length ≤ 4200
      · have g3 : decide ((l.length : Int) ≤ 4200) = true := by simp; omega
        go_enter Try.func15, Try.ntmps15
        go_wp2
        go_ret
        exact ⟨ret_bool (by simp [few, h2, h3]), rfl⟩
      · have g3 : decide ((l.length : Int) ≤ 4200) = false := by simp; omega
        go_enter Try.func15, Try.ntmps15
        go_wp2
        go_ret
        exact ⟨ret_bool (by simp [few, h1, h3]), rfl⟩
    · have g2 : decide ((4096 : Int) < l.length) = false := by simp; omega
      go_enter Try.func15, Try.ntmps15
      go_wp2
      go_ret
      exact ⟨ret_bool (by simp [few, h1, h2]), rfl⟩
def rightV (l : List Vi) : Bool := decide (l.length ≤ 40) && (chk l == 0)
theorem right26_any (A : Option Addr) (c : Nat) (l : List Vi) (w : World) (hS : Sl viC 4 w A c l) :
    Calls Try.prog 26 #[.slice A l.length c] w fun e w' => e = .returned (.bool (rightV l)) ∧ Below w.heap.size w w' := by
  have hlc := hS.le
  have hc := hS.max
  have KC := hide (Check19_any A c l w hS)
  have HE := hide (show rightV l = (decide (l.length ≤ 40) && (chk l == 0)) from rfl)
  generalize rightV l = R at *
  generalize chk l = C at *
  clear hS
  by_cases h1 : l.length ≤ 40
  · have g1 : decide ((l.length : Int) ≤ 40) = true := by simp; omega
    have HE := hide (show R = (C == 0) by rw [HE.out]; simp [h1])
    go_enter Try.func26, Try.ntmps26
    go_wp2_with (refine KC.out.mono ?_; rintro e w' ⟨rfl, hb⟩)
    go_ret
    exact ⟨ret_bool HE.out.symm, hb⟩
  · have g1 : decide ((l.length : Int) ≤ 40) = false := by simp; omega
    obtain rfl : R = false := by rw [HE.out]; simp [h1]
    clear HE
    go_enter Try.func26, Try.ntmps26
    go_wp2
    go_ret
    exact ⟨rfl, Below.refl _ _⟩
theorem rightV_ok {l : List Vi} (h : rightV l = true) : l.length ≤ 40 ∧ chk l = 0 := by
  simpa [rightV] using h
end Go.Proofs.Ytchdoamoeccjkaa
namespace Go.Proofs.Ytchdoamoeccjkaa
open Go.RowKit Go.Shelf Go.Mine Go.Mine.V
open Go.Mine.S (Sp addL)
attribute [local go_sem] Oper.semAt_some

def okVi (l : List Vi) : Bool := l.all fun x => decide (-2000000000000 ≤ x.t ∧ x.t ≤ 2000000000000 ∧ -1000000 ≤ x.who ∧ x.who ≤ 1000000 ∧ -1000 ≤ x.k ∧ x.k ≤ 1000 ∧ -1000 ≤ x.g ∧ x.g ≤ 1000)
theorem okVi_ok {l : List Vi} (h : okVi l = true) : ∀ x ∈ l, ViS x := fun x hx => by
  have := List.all_eq_true.1 h x hx
  simp only [decide_eq_true_eq] at this
  unfold ViS I64
  omega
section
variable {A B : Option Addr} {c d : Nat} {l : List Vi} {w : World}
theorem sees_lit (hS : Sl viC 4 w A c l) (n : Nat) (who t g e9 : Int) (o : Bool) (hn : l.length = n) (hI : okVi l = true) (h1 : seesG l who t = g) (h2 : seesO l who t = o) (h3 : seesE l who t = e9) :
    Calls Try.prog 16 #[.slice A n c, .int .i64 who, .int .i64 t] w fun e w' => e = .returned (.tuple #[.int .i64 g, .bool o, .int .i64 e9]) ∧ Below w.heap.size w w' := by
  subst hn h1 h2 h3; exact Sees16_any A c l who t w hS (okVi_ok hI)
theorem check_lit (hS : Sl viC 4 w A c l) (n : Nat) (C : Int) (hn : l.length = n) (hI : okVi l = true) (h : chk l = C) :
    Calls Try.prog 18 #[.slice A n c] w fun e w' => e = .returned (.int .i64 C) ∧ Below w.heap.size w w' := by
  subst hn h; exact Check_any A c l w hS (okVi_ok hI)
theorem pres_lit (hS : Sl viC 4 w A c l) (n : Nat) (lang t E : Int) (x : List Int) (k : Nat) (hn : l.length = n) (hI : okVi l = true) (h1 : presL l lang t = x) (hk : x.length = k) (h2 : presE l lang t = E) :
    Calls Try.prog 22 #[.slice A n c, .int .i64 lang, .int .i64 t] w fun e w' => ∃ A' c', e = .returned (.tuple #[.slice A' k c', .int .i64 E]) ∧ Sl ic 1 w' A' c' x ∧ Below w.heap.size w w' := by
  subst hn hk h1 h2; exact Present22_any A c l lang t w hS (okVi_ok hI)
theorem spans_lit (hS : Sl viC 4 w A c l) (n : Nat) (who lang E : Int) (x : List Sp) (k : Nat) (hn : l.length = n) (hI : okVi l = true) (h1 : spanL l who lang = x) (hk : x.length = k) (h2 : spanE l who lang = E) :
    Calls Try.prog 20 #[.slice A n c, .int .i64 who, .int .i64 lang] w fun e w' => ∃ A' c', e = .returned (.tuple #[.slice A' k c', .int .i64 E]) ∧ Sl spc 2 w' A' c' x ∧ Below w.heap.size w w' := by
  subst hn hk h1 h2; exact Spans20_any A c l who lang w hS (okVi_ok hI)
theorem ints_lit {x : List Int} (hA : Sl ic 1 w A c x) (hB : Sl ic 1 w B d x) (k : Nat) (hk : x.length = k) :
    Calls Try.prog 25 #[.slice A k c, .slice B k d] w fun e w' => e = .returned (.bool true) ∧ Below w.heap.size w w' := by
  subst hk
  have K := sameInts25_any A B c d x x w hA hB
  rwa [decide_eq_true rfl] at K
set_option maxHeartbeats 1000000 in
theorem seen_lit (hS : Sl viC 4 w A c l) (n : Nat) (lang : Int) (x : List Sp) (k : Nat) (hW : Sl spc 2 w B d x) (hn : l.length = n) (hI : okVi l = true) (h1 : spanL l 0 lang = x) (hk : x.length = k) (h2 : spanE l 0 lang = 0) :
    Calls Try.prog 46 #[.slice A n c, .int .i64 lang, .slice B k d] w fun e w' => e = .returned (.bool true) ∧ Below w.heap.size w w' := by
  have K := hide (spans_lit hS n 0 lang 0 x k hn hI h1 hk h2)
  have KS := hide (fun A' c' w' (h : Sl spc 2 w' A' c' x) (h2 : Sl spc 2 w' B d x) => by have := sameSpans24_any A' B c' d x x w' h h2; rw [decide_eq_true rfl, hk] at this; exact this)
  clear hS hI h1 hk h2 hn
  go_enter Try.func46, Try.ntmps46
  go_wp2_with fail
  refine K.out.mono ?_
  rintro e w1 ⟨A', c', rfl, hS', hb⟩
  have K2 := hide (KS.out A' c' w1 hS' (hW.bel hb))
  clear K KS hS' hW
  go_wp2_with fail
  refine K2.out.mono ?_
  rintro e w2 ⟨rfl, hb2⟩
  have HB := hide (kcall hb hb2)
  clear hb hb2 K2
  go_wp2
  go_ret
  exact ⟨rfl, HB.out⟩
end
def awayL : List Vi := [⟨5, 4, 1, 2⟩, ⟨6, 4, 3, 0⟩, ⟨7, 4, 2, 3⟩, ⟨9, 4, 4, 0⟩]
theorem vsl_blk {α : Type} {f : α → List Value} {sz : Nat} {W : World} {b c : Nat} {ty : TypeId} {cs : Array Value} (h : Blk W b ty cs) (l : List α) (hcs : cs.toList = l.flatMap f) (hs : ∀ x ∈ l, (f x).length = sz) (hn : l.length ≤ c) (hc : c ≤ 1000) : Sl f sz W (some ⟨b, 0, none⟩) c l :=
  ⟨hn, by omega, hs, fun _ => ⟨b, 0, rfl, h.lt, fun i v hv => by
    simp only [Nat.zero_add, World.cell?, h.at_]
    rw [← Array.getElem?_toList, hcs]
    simpa using hv⟩⟩
theorem vlit {α : Type} (f : α → List Value) (sz : Nat) (w : World) (ty : TypeId) (l : List α) (n : Nat) {cs : Array Value} {b : Nat} (hcs : cs.toList = l.flatMap f) (hb : w.heap.size = b) (hs : ∀ x ∈ l, (f x).length = sz) (hn : l.length = n) (hm : n ≤ 1000) : Sl f sz (w.alloc (.cells cs ty)) (some ⟨b, 0, none⟩) n l := by
  subst hb; exact vsl_blk (Blk.new w _ ty) l hcs hs (by omega) hm
theorem away44_any (w : World) : Calls Try.prog 44 #[] w fun e w' => ∃ b, e = .returned (.slice (some ⟨b, 0, none⟩) 4 4) ∧ Sl viC 4 w' (some ⟨b, 0, none⟩) 4 awayL ∧ Below w.heap.size w w' := by
  go_enter Try.func44, Try.ntmps44
  go_wp2
  go_ret
  exact ⟨_, rfl, vlit viC 4 w 40 awayL 4 rfl rfl (fun _ _ => rfl) rfl (by decide), kalloc (Below.refl _ _) _⟩
set_option maxHeartbeats 1000000 in
theorem sees45_no (t want : Int) (w : World) (hw : want < 0) (h1 : seesG awayL 4 t = 0) (h2 : seesO awayL 4 t = false) (h3 : seesE awayL 4 t = 0) :
    Calls Try.prog 45 #[.int .i64 t, .int .i64 want] w fun e w' => e = .returned (.bool true) ∧ Below w.heap.size w w' := by
  have KA := hide (away44_any w)
  have KS := hide (fun b w' (h : Sl viC 4 w' (some ⟨b, 0, none⟩) 4 awayL) => sees_lit h 4 4 t 0 0 false rfl (by decide) h1 h2 h3)
  have gw : decide (want < 0) = true := by simpa using hw
  clear h1 h2 h3 hw
  go_enter Try.func45, Try.ntmps45
  go_wp2_with fail
  refine KA.out.mono ?_
  rintro e w1 ⟨b, rfl, hS, hb⟩
  have K2 := hide (KS.out b w1 hS)
  clear KA KS hS
  go_wp2_with fail
  refine K2.out.mono ?_
  rintro e w2 ⟨rfl, hb2⟩
  have HB := hide (kcall hb hb2)
  clear hb hb2 K2
  go_wp2
  go_ret
  exact ⟨rfl, HB.out⟩
set_option maxHeartbeats 1000000 in
theorem sees45_yes (t want : Int) (w : World) (hw : 0 ≤ want) (h1 : seesG awayL 4 t = want) (h2 : seesO awayL 4 t = true) (h3 : seesE awayL 4 t = 0) :
    Calls Try.prog 45 #[.int .i64 t, .int .i64 want] w fun e w' => e = .returned (.bool true) ∧ Below w.heap.size w w' := by
  have KA := hide (away44_any w)
  have KS := hide (fun b w' (h : Sl viC 4 w' (some ⟨b, 0, none⟩) 4 awayL) => sees_lit h 4 4 t want 0 true rfl (by decide) h1 h2 h3)
  have gw : decide (want < 0) = false := by simp; omega
  have gw2 : decide (0 ≤ want) = true := by simpa using hw
  clear h1 h2 h3 hw
  go_enter Try.func45, Try.ntmps45
  go_wp2_with fail
  refine KA.out.mono ?_
  rintro e w1 ⟨b, rfl, hS, hb⟩
  have K2 := hide (KS.out b w1 hS)
  clear KA KS hS
  go_wp2_with fail
  refine K2.out.mono ?_
  rintro e w2 ⟨rfl, hb2⟩
  have HB := hide (kcall hb hb2)
  clear hb hb2 K2
  go_wp2
  go_ret
  exact ⟨rfl, HB.out⟩
def badL : List Vi := [⟨0, 0, 3, 0⟩]
def changeL : List Vi := [⟨5, 0, 1, 2⟩, ⟨8, 0, 2, 3⟩]
def sameL : List Vi := [⟨5, 0, 1, 2⟩, ⟨6, 0, 2, 2⟩]
def shortL : List Vi := [⟨5, 0, 1, 2⟩, ⟨5, 0, 3, 0⟩]
set_option maxRecDepth 100000 in
set_option maxHeartbeats 8000000 in
theorem sane14_any (w : World) : Calls Try.prog 14 #[] w fun e w' => e = .returned (.bool true) ∧ Below w.heap.size w w' := by
  have B0 := Below.refl w.heap.size w
  go_enter Try.func14, Try.ntmps14
  go_wp2_with fail
  refine (sees_lit (l := []) (Sl.nil (by decide)) 0 0 0 0 0 false rfl rfl (by decide +kernel) (by decide +kernel) (by decide +kernel)).mono ?_
  rintro e w1 ⟨rfl, hb⟩
  have B1 := kcall B0 hb
  clear hb B0
  go_wp2_with fail
  refine (pres_lit (l := []) (Sl.nil (by decide)) 0 0 0 0 [] 0 rfl rfl (by decide +kernel) rfl (by decide +kernel)).mono ?_
  rintro e w2 ⟨A2, c2, rfl, -, hb⟩
  have B2 := kcall B1 hb
  clear hb B1
  go_wp2_with fail
  refine (away44_any _).mono ?_
  rintro e w3 ⟨b3, rfl, S3, hb⟩
  have B3 := kcall B2 hb
  clear hb B2
  go_wp2_with fail
  refine (pres_lit S3 4 3 9 0 [4] 1 rfl (by decide) (by decide +kernel) rfl (by decide +kernel)).mono ?_
  rintro e w4 ⟨A4, c4, rfl, S4, hb⟩
  have B4 := kcall B3 hb
  clear hb B3 S3
  go_wp2_with fail
  refine (sees_lit (l := []) (Sl.nil (by decide)) 0 100000 0 0 1 false rfl rfl (by decide +kernel) (by decide +kernel) (by decide +kernel)).mono ?_
  rintro e w5 ⟨rfl, hb⟩
  have B5 := kcall B4 hb
  have S5 := S4.bel hb
  clear hb B4 S4
  go_wp2_with fail
  refine (spans_lit (l := []) (Sl.nil (by decide)) 0 0 32 1 [] 0 rfl rfl (by decide +kernel) rfl (by decide +kernel)).mono ?_
  rintro e w6 ⟨A6, c6, rfl, -, hb⟩
  have B6 := kcall B5 hb
  have S6 := hide (S5.bel hb)
  clear hb B5 S5
  have L6 := hide (vlit ic 1 w6 3 [4] 1 (cs := #[.int .i64 4]) rfl rfl (fun _ _ => rfl) rfl (by decide))
  have B6 := hide B6
  go_wp2_with fail
  refine (ints_lit (S6.out.alloc _) L6.out 1 rfl).mono ?_
  rintro e w7 ⟨rfl, hb⟩
  have B7 := kcall (kalloc B6.out _) hb
  clear hb B6 S6 L6
  have L7 := hide (vlit viC 4 w7 40 badL 1 (cs := #[.int .i64 0, .int .i64 0, .int .i64 3, .int .i64 0]) rfl rfl (fun _ _ => rfl) rfl (by decide))
  have B7 := hide B7
  go_wp2_with fail
  refine (check_lit L7.out 1 520 rfl (by decide) (by decide +kernel)).mono ?_
  rintro e w8 ⟨rfl, hb⟩
  have B8 := hide (kcall (kalloc B7.out _) hb)
  clear hb B7 L7
  go_wp2_with fail
  refine (away44_any _).mono ?_
  rintro e w9 ⟨b9, rfl, S9, hb⟩
  have B9 := hide (kcall B8.out hb)
  clear hb B8
  go_wp2_with fail
  refine (check_lit S9 4 0 rfl (by decide) (by decide +kernel)).mono ?_
  rintro e w10 ⟨rfl, hb⟩
  have B10 := hide (kcall B9.out hb)
  clear hb B9 S9
  go_wp2_with fail
  refine (sees45_no 4 (-1) _ (by decide) (by decide +kernel) (by decide +kernel) (by decide +kernel)).mono ?_
  rintro e w11 ⟨rfl, hb⟩
  have B11 := hide (kcall B10.out hb)
  clear hb B10
  go_wp2_with fail
  refine (sees45_yes 5 2 _ (by decide) (by decide +kernel) (by decide +kernel) (by decide +kernel)).mono ?_
  rintro e w12 ⟨rfl, hb⟩
  have B12 := hide (kcall B11.out hb)
  clear hb B11
  go_wp2_with fail
  refine (sees45_no 8 (-1) _ (by decide) (by decide +kernel) (by decide +kernel) (by decide +kernel)).mono ?_
  rintro e w13 ⟨rfl, hb⟩
  have B13 := hide (kcall B12.out hb)
  clear hb B12
  go_wp2_with fail
  refine (sees45_yes 9 3 _ (by decide) (by decide +kernel) (by decide +kernel) (by decide +kernel)).mono ?_
  rintro e w14 ⟨rfl, hb⟩
  have B14 := hide (kcall B13.out hb)
  clear hb B13
  have C1 := vlit viC 4 w14 40 changeL 2 (cs := #[.int .i64 5, .int .i64 0, .int .i64 1, .int .i64 2, .int .i64 8, .int .i64 0, .int .i64 2, .int .i64 3]) rfl rfl (fun _ _ => rfl) rfl (by decide)
  have C2 := vlit viC 4 (w14.alloc (.cells #[.int .i64 5, .int .i64 0, .int .i64 1, .int .i64 2, .int .i64 8, .int .i64 0, .int .i64 2, .int .i64 3] 40)) 40 sameL 2 (b := w14.heap.size + 1) (cs := #[.int .i64 5, .int .i64 0, .int .i64 1, .int .i64 2, .int .i64 6, .int .i64 0, .int .i64 2, .int .i64 2]) rfl (by simp) (fun _ _ => rfl) rfl (by decide)
  have C3 := vlit viC 4 ((w14.alloc (.cells #[.int .i64 5, .int .i64 0, .int .i64 1, .int .i64 2, .int .i64 8, .int .i64 0, .int .i64 2, .int .i64 3] 40)).alloc (.cells #[.int .i64 5, .int .i64 0, .int .i64 1, .int .i64 2, .int .i64 6, .int .i64 0, .int .i64 2, .int .i64 2] 40)) 40 shortL 2 (b := w14.heap.size + 1 + 1) (cs := #[.int .i64 5, .int .i64 0, .int .i64 1, .int .i64 2, .int .i64 5, .int .i64 0, .int .i64 3, .int .i64 0]) rfl (by simp) (fun _ _ => rfl) rfl (by decide)
  have C1 := (C1.alloc (.cells #[.int .i64 5, .int .i64 0, .int .i64 1, .int .i64 2, .int .i64 6, .int .i64 0, .int .i64 2, .int .i64 2] 40)).alloc (.cells #[.int .i64 5, .int .i64 0, .int .i64 1, .int .i64 2, .int .i64 5, .int .i64 0, .int .i64 3, .int .i64 0] 40)
  have C2 := C2.alloc (.cells #[.int .i64 5, .int .i64 0, .int .i64 1, .int .i64 2, .int .i64 5, .int .i64 0, .int .i64 3, .int .i64 0] 40)
  have B15 := kalloc (kalloc (kalloc B14.out (.cells #[.int .i64 5, .int .i64 0, .int .i64 1, .int .i64 2, .int .i64 8, .int .i64 0, .int .i64 2, .int .i64 3] 40)) (.cells #[.int .i64 5, .int .i64 0, .int .i64 1, .int .i64 2, .int .i64 6, .int .i64 0, .int .i64 2, .int .i64 2] 40)) (.cells #[.int .i64 5, .int .i64 0, .int .i64 1, .int .i64 2, .int .i64 5, .int .i64 0, .int .i64 3, .int .i64 0] 40)
  have hz : (((w14.alloc (.cells #[.int .i64 5, .int .i64 0, .int .i64 1, .int .i64 2, .int .i64 8, .int .i64 0, .int .i64 2, .int .i64 3] 40)).alloc (.cells #[.int .i64 5, .int .i64 0, .int .i64 1, .int .i64 2, .int .i64 6, .int .i64 0, .int .i64 2, .int .i64 2] 40)).alloc (.cells #[.int .i64 5, .int .i64 0, .int .i64 1, .int .i64 2, .int .i64 5, .int .i64 0, .int .i64 3, .int .i64 0] 40)).heap.size = w14.heap.size + 3 := by simp
  clear B14
  go_wp2_with fail
  generalize ((w14.alloc (.cells #[.int .i64 5, .int .i64 0, .int .i64 1, .int .i64 2, .int .i64 8, .int .i64 0, .int .i64 2, .int .i64 3] 40)).alloc (.cells #[.int .i64 5, .int .i64 0, .int .i64 1, .int .i64 2, .int .i64 6, .int .i64 0, .int .i64 2, .int .i64 2] 40)).alloc (.cells #[.int .i64 5, .int .i64 0, .int .i64 1, .int .i64 2, .int .i64 5, .int .i64 0, .int .i64 3, .int .i64 0] 40) = w15 at *
  refine (seen_lit (C1.alloc _) 2 2 [(5, 8)] 1 (vlit spc 2 w15 68 [(5, 8)] 1 rfl hz (fun _ _ => rfl) rfl (by decide)) rfl (by decide) (by decide +kernel) rfl (by decide +kernel)).mono ?_
  rintro e w16 ⟨rfl, hb⟩
  have C1 := (C1.alloc _).bel hb
  have C2 := (C2.alloc _).bel hb
  have C3 := (C3.alloc _).bel hb
  have B16 := kcall (kalloc B15 _) hb
  clear hb B15 hz
  go_wp2_with fail
  refine (seen_lit (C1.alloc _) 2 3 [(8, 1099511627776)] 1 (vlit spc 2 w16 68 [(8, 1099511627776)] 1 rfl rfl (fun _ _ => rfl) rfl (by decide)) rfl (by decide) (by decide +kernel) rfl (by decide +kernel)).mono ?_
  rintro e w17 ⟨rfl, hb⟩
  have C2 := (C2.alloc _).bel hb
  have C3 := (C3.alloc _).bel hb
  have B17 := kcall (kalloc B16 _) hb
  clear hb B16 C1
  go_wp2_with fail
  refine (seen_lit (C2.alloc _) 2 2 [(5, 1099511627776)] 1 (vlit spc 2 w17 68 [(5, 1099511627776)] 1 rfl rfl (fun _ _ => rfl) rfl (by decide)) rfl (by decide) (by decide +kernel) rfl (by decide +kernel)).mono ?_
  rintro e w18 ⟨rfl, hb⟩
  have C3 := (C3.alloc _).bel hb
  have B18 := kcall (kalloc B17 _) hb
  clear hb B17 C2
  go_wp2_with fail
  refine (seen_lit C3 2 2 [] 0 (Sl.nil (by decide)) rfl (by decide) (by decide +kernel) rfl (by decide +kernel)).mono ?_
  rintro e w19 ⟨rfl, hb⟩
  have B19 := hide (kcall B18 hb)
  clear hb B18 C3
  go_wp2
  go_ret
  exact ⟨rfl, B19.out⟩
end Go.Proofs.Ytchdoamoeccjkaa
