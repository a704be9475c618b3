/-
  TopTrades: the reference's error of demands; equal budgets; what is due.
-/
import Derived.Test.YtnngemgfochodaaGreatTM16
import Derived.Test.YtnngemgfochodaaGreatXTop
import Derived.Test.YtnngemgfochodaaGreatTM6
import Derived.Test.YtnngemgfochodaaGreatTM5
namespace Go.Proofs.YtnngemgfochodaaGreat
open Go.RowKit Go.Shelf Go.Mine Go.Mine.B Go.Mine.X
attribute [local go_sem] Oper.semAt_some
theorem amount17 (n : Int) (w : World) : Calls Tryz.prog 17 #[.int .i64 n] w fun e w' => e = .returned (.bool (inM 1099511627776 n)) ∧ w = w' := by
  go_enter Tryz.func17, Tryz.ntmps17
  go_wp2
  all_goals (go_ret; exact ⟨ret_bool (by unfold inM; first | (simp [*]; done) | (simp; omega)), rfl⟩)
def errP (ds : List Int) : Int := if 32 < ds.length then 2 else if ds.all (inM 1099511627776) = true then 0 else 440
theorem errP_zero {ds : List Int} (h : errP ds = 0) : ds.length ≤ 32 ∧ ∀ d ∈ ds, 0 ≤ d ∧ d ≤ 1099511627776 := by
  unfold errP at h
  by_cases h1 : 32 < ds.length
  · rw [if_pos h1] at h; cases h
  · rw [if_neg h1] at h
    by_cases h2 : ds.all (inM 1099511627776) = true
    · exact ⟨by omega, fun d hd => inM_iff.1 (List.all_eq_true.1 h2 d hd)⟩
    · rw [if_neg h2] at h; cases h
theorem error6 (A : Option Addr) (c : Nat) (ds : List Int) (w : World) (hS : Sl ic 1 w A c ds) :
    Calls Tryz.prog 6 #[.int .i64 0, .slice A ds.length c] w fun e w' => e = .returned (.int .i64 (errP ds)) ∧ w = w' := by
  have hlc := hS.le
  have hc := hS.max
  have K0 := hide (amount17 0 w)
  rw [show inM 1099511627776 0 = true by decide] at K0
  have HS := hide hS
  clear hS
  by_cases h32 : 32 < ds.length
  · have g1 : (32 : Int) < (ds.length : Int) := by omega
    have he : errP ds = 2 := by unfold errP; rw [if_pos h32]
    rw [he]
    clear he
    go_enter Tryz.func6, Tryz.ntmps6
    go_wp2
    go_ret
    exact ⟨rfl, rfl⟩
  · have g1 : ¬ (32 : Int) < (ds.length : Int) := by omega
    have HE := hide (show errP ds = if ds.all (inM 1099511627776) = true then 0 else 440 by unfold errP; rw [if_neg h32])
    generalize errP ds = R at HE ⊢
    go_enter Tryz.func6, Tryz.ntmps6
    go_wp2_with fail
    refine K0.out.mono ?_
    rintro e w' ⟨rfl, rfl⟩
    clear K0
    go_wp2
    go_loop [5] (fun i => ∃ k : Nat, k ≤ ds.length ∧ i = .int .i64 k ∧ (ds.take k).all (inM 1099511627776) = true) (fun i => ds.length - (nI i).toNat)
    case atStart => exact ⟨0, Nat.zero_le _, rfl, rfl⟩
    case round =>
      obtain ⟨k, hk, rfl, hq⟩ := hrel
      have HQ := hide hq
      clear hq
      by_cases hlt : k < ds.length
      · obtain ⟨x, b, off, hx, hdr, rfl, hbw, c1⟩ := Sl.ic_at HS.out hlt
        have kz : (k : Int) < (ds.length : Int) := by omega
        have K := hide (amount17 x w)
        have HX := hide (take_of_get hx)
        have HM := hide (List.mem_of_getElem? hx)
        clear hx hdr
        cases hin : inM 1099511627776 x
        · have HR : Hid (R = 440) := hide (by
            rw [HE.out, if_neg]
            intro h
            have := List.all_eq_true.1 h x HM.out
            rw [hin] at this; cases this)
          rw [hin] at K
          clear hin HE
          go_wp2_with fail
          refine K.out.mono ?_
          rintro e w' ⟨rfl, rfl⟩
          go_wp2
          go_ret
          exact ⟨by rw [HR.out]; rfl, rfl⟩
        · have HN : Hid ((ds.take (k + 1)).all (inM 1099511627776) = true) := hide (by rw [HX.out, List.all_append, HQ.out]; simp [hin])
          rw [hin] at K
          clear hin
          go_wp2_with fail
          refine K.out.mono ?_
          rintro e w' ⟨rfl, rfl⟩
          go_wp2
          go_round
          case rel => exact ⟨k + 1, by omega, by go_num, HN.out⟩
          case measure => simp [nI]; omega
      · obtain rfl : k = ds.length := by omega
        have hq := HQ.out
        rw [List.take_length] at hq
        have HR : Hid (R = 0) := hide (by rw [HE.out, if_pos hq])
        clear hq HQ HE
        go_wp2
        go_ret
        exact ⟨by rw [HR.out]; rfl, rfl⟩
theorem eq28s (d : Nat) (a1 a2 a3 a4 : Int) (w : World) : (Op.equalIn (d + 2) 28 (.agg #[.int .i64 a1, .int .i64 a2, .int .i64 a3, .int .i64 a4]) (.agg #[.int .i64 a1, .int .i64 a2, .int .i64 a3, .int .i64 a4])).run Tryz.prog w = .ok true w := by
  rw [eq24]; simp
theorem eq30s (d : Nat) (l a1 a2 a3 a4 : Int) (w : World) : (Op.equalIn (d + 3) 30 (.agg #[.int .i64 l, .int .i64 a1, .int .i64 a2, .int .i64 a3, .int .i64 a4]) (.agg #[.int .i64 l, .int .i64 a1, .int .i64 a2, .int .i64 a3, .int .i64 a4])).run Tryz.prog w = .ok true w := by
  have hs : Tryz.prog.stoodInHeld 30 = false := by kernel_rfl
  have e1 : ∀ w, (part 3 #[Value.int .i64 l, .int .i64 a1, .int .i64 a2, .int .i64 a3, .int .i64 a4] 0).run Tryz.prog w = .ok (.int .i64 l) w := fun w => by simp [part, Sem.run_bind, Tryz.sizeOf3, Tryz.isAgg3, Result.andThen_ok, go_sem]
  have e2 : ∀ w, (part 28 #[Value.int .i64 l, .int .i64 a1, .int .i64 a2, .int .i64 a3, .int .i64 a4] 1).run Tryz.prog w = .ok (.agg #[.int .i64 a1, .int .i64 a2, .int .i64 a3, .int .i64 a4]) w := fun w => by simp [part, Sem.run_bind, Tryz.sizeOf28, Tryz.isAgg28, Result.andThen_ok, go_sem]
  have e3 : ∀ w, (Op.equalIn (d + 2) 3 (.int .i64 l) (.int .i64 l)).run Tryz.prog w = .ok true w := fun w => by simp [Op.equalIn, Sem.run_bind, run_underlying Tryz.underlying3, Result.andThen_ok, go_sem]
  unfold Op.equalIn
  simp [Sem.run_bind, run_underlying Tryz.underlying30, Result.andThen_ok, run_program, hs, e1, e2, e3, eq28s]
theorem due10 {A B : Option Addr} {c d : Nat} {b : List Bu} {l : List Tr} {w : World} (hz : chk 400 b l = 0) (hI : buS b) (hJ : trS l) {y : Bu} (hy : y ∈ b) {u k : Int} (hu : timeB u = true) (hk : timeB k = true) (hS : Sl buC 5 w A c b) (hT : Sl trC 7 w B d l) :
    Calls Tryz.prog 10 #[.slice A b.length c, .slice B l.length d, .int .i64 y.lang, .int .i64 u, .int .i64 k] w (DueE (tq (stq b l y.lang u k) u, 0) w) := by
  have K := due26 A c b B d l y.lang u k w hS hT hI hJ
  rw [dueV_good hz (by rw [hu, hk, show has b y.lang = true from List.any_eq_true.2 ⟨y, hy, by simp⟩]; rfl)] at K
  exact K
theorem left11 {A B : Option Addr} {c d : Nat} {b : List Bu} {l : List Tr} {w : World} (hz : chk 400 b l = 0) (hI : buS b) (hJ : trS l) {y : Bu} (hy : y ∈ b) {u k : Int} (hu : timeB u = true) (hk : timeB k = true) {s : Nat} (hs : s < 4) (hS : Sl buC 5 w A c b) (hT : Sl trC 7 w B d l) :
    Calls Tryz.prog 11 #[.slice A b.length c, .slice B l.length d, .int .i64 y.lang, .int .i64 u, .int .i64 k, .int .i64 s, .int .i64 u] w (LeftE (qg (tq (stq b l y.lang u k) u) (s : Int) - u, 0) w) := by
  have K := left28 A c b B d l y.lang u k (s : Int) u w hS hT hI hJ
  have e : leftV 400 1 b l y.lang u k (s : Int) u = (qg (tq (stq b l y.lang u k) u) (s : Int) - u, 0) := by
    unfold leftV
    rw [dueV_good hz (by rw [hu, hk, show has b y.lang = true from List.any_eq_true.2 ⟨y, hy, by simp⟩]; rfl)]
    rw [if_neg (by simp), hu, show inR (s : Int) 0 3 = true from inR_iff.2 ⟨by omega, by omega⟩]
    rfl
  rw [e] at K
  exact K
end Go.Proofs.YtnngemgfochodaaGreat
