/-
  provenance.Back, Then.
-/
import Derived.Test.YtlobgdnhmhdhbaaPUnion
namespace Go.Proofs.Ytlobgdnhmhdhbaa
open Go.RowKit Go.Shelf Go.Mine

theorem named_mem {es : List Hd} {l : List Int} (hl : ∀ i ∈ l, 0 ≤ i ∧ i < es.length) {e : Hd} : e ∈ named es l ↔ ∃ i ∈ l, e = es.getD i.toNat default := by
  unfold named
  rw [List.mem_map]
  constructor
  · rintro ⟨i, hi, rfl⟩; exact ⟨i, hi, rfl⟩
  · rintro ⟨i, hi, rfl⟩; exact ⟨i, hi, rfl⟩
theorem named_in {es : List Hd} {l : List Int} (hl : ∀ i ∈ l, 0 ≤ i ∧ i < es.length) {e : Hd} (h : e ∈ named es l) : e ∈ es := by
  obtain ⟨i, hi, rfl⟩ := (named_mem hl).1 h
  have := hl i hi
  rw [List.getD_eq_getElem?_getD, List.getElem?_eq_getElem (by omega)]
  simp
theorem row_named {es : List Hd} {i : Int} (h : 0 ≤ i ∧ i < es.length) : P.row (es.map fun e => e.2.2) i = (es.getD i.toNat default).2.2 := by
  unfold P.row
  rw [List.getD_eq_getElem?_getD, List.getD_eq_getElem?_getD, List.getElem?_map, List.getElem?_eq_getElem (by omega)]
  rfl
theorem total_le {B : Nat} : ∀ (hs : List Hd), (∀ e ∈ hs, e.2.2.length ≤ B) → total hs ≤ hs.length * B
  | [], _ => by simp [total]
  | e :: r, h => by
    have h1 := total_le r (fun x hx => h x (by simp [hx]))
    have h2 := h e (by simp)
    have e1 : total (e :: r) = e.2.2.length + total r := by simp [total]
    rw [e1, List.length_cons, Nat.succ_mul]
    omega
/-- union of the lists that l names, of a right relation -/
theorem un23_any (w w' : World) (A B : Option Addr) (c d : Nat) (r : List (List Int)) (n : Int) (es : List Hd) (l : List Int) (he : es.map (fun e => e.2.2) = r) (hE : Sl hc 1 w A c es) (hS : ∀ e ∈ es, Sl ic 1 w e.1 e.2.1 e.2.2) (hL : Sl ic 1 w B d l)
    (hz : P.chk r n = 0) (hl : P.below l r.length = true) (h0 : Blk w' w.heap.size 22 #[.slice A r.length c]) (h1 : Blk w' (w.heap.size + 1) 31 #[.slice B l.length d]) (hb : Below w.heap.size w w') :
    Calls Try.prog 23 #[.func (.func 33) #[] #[.pointer (some ⟨w.heap.size + 1, 0, none⟩), .pointer (some ⟨w.heap.size, 0, none⟩)]] w' fun e w'' => ∃ v, e = .returned v ∧ OwnL ic 1 3 w'' w'.heap.size v (P.allL r n l) ∧ Below w'.heap.size w' w'' := by
  have hlen : es.length = r.length := by rw [← he]; simp
  obtain ⟨z1, z2, z3, z4⟩ := P.chk_zero.1 hz
  obtain ⟨l1, l2⟩ := (P.below_iff _ _).1 hl
  have hlb : ∀ i ∈ l, 0 ≤ i ∧ i < es.length := fun i hi => by have := l1 i hi; omega
  have hin : ∀ e ∈ es, P.below e.2.2 n = true := fun e hem => z4 _ (by rw [← he]; exact List.mem_map.2 ⟨e, hem, rfl⟩)
  have hi64 : ∀ e ∈ es, ∀ y ∈ e.2.2, I64 y := fun e hem y hy => by
    have := ((P.below_iff _ _).1 (hin e hem)).1 y hy
    exact ⟨by omega, by omega⟩
  have hit := lists33_iter w w' A B c d es l hE hL hb w.heap.size (Nat.le_refl _) (by rw [hlen]; exact h0.cell 0 rfl) (h1.cell 0 rfl) (by have := h1.lt; omega) hlb
  have htot : total (named es l) ≤ 1000000000 := by
    have h1 := total_le (B := 4096) (named es l) (fun e hem => P.below_le (hin e (named_in hlb hem)) z3)
    have h2 : (named es l).length ≤ 4096 := by simp only [named, List.length_map]; exact P.below_le hl (by omega)
    have h3 : (named es l).length * 4096 ≤ 4096 * 4096 := Nat.mul_le_mul_right _ h2
    omega
  refine (union23_any w' _ (named es l) _ hit (fun b hb' => by have := h1.lt; have := hb.size; omega) (fun e hem => ⟨(hS e (named_in hlb hem)).bel hb, hi64 e (named_in hlb hem)⟩) htot).mono ?_
  rintro e w'' ⟨v, L, rfl, q1, q2, q3, q4⟩
  have hLe : L = P.allL r n l := by
    refine P.sorted_eq q1 ((P.below_iff _ _).1 (P.allL_below _ _ _)).2 fun k => ?_
    rw [q2, P.mem_allL]
    constructor
    · rintro ⟨e, hem, hk⟩
      have hk2 := ((P.below_iff _ _).1 (hin e (named_in hlb hem))).1 k hk
      obtain ⟨i, hi, rfl⟩ := (named_mem hlb).1 hem
      exact ⟨hk2, i, hi, by rw [← he, row_named (hlb i hi)]; exact hk⟩
    · rintro ⟨_, i, hi, hk⟩
      exact ⟨_, (named_mem hlb).2 ⟨i, hi, rfl⟩, by rw [← he, row_named (hlb i hi)] at hk; exact hk⟩
  subst hLe
  exact ⟨v, rfl, q3, q4⟩
set_option maxHeartbeats 2000000 in
theorem back18_any (A B : Option Addr) (c d : Nat) (r : List (List Int)) (n : Int) (l : List Int) (w : World) (hR : Rel w A c r) (hL : Sl ic 1 w B d l) :
    Calls Try.prog 18 #[.slice A r.length c, .int .i64 n, .slice B l.length d] w fun e w' => ∃ v, e = .returned (.tuple #[v, .int .i64 (P.argE r n r.length l)]) ∧ OwnL ic 1 3 w' w.heap.size v (P.backL r n l) ∧ Below w.heap.size w w' := by
  have a1 := hR.le
  have a2 := hR.max
  have a3 := hL.le
  have a4 := hL.max
  have KC := hide (check13_any A c r n w hR)
  have KB := hide (fun w (hL : Sl ic 1 w B d l) => below27_any B d l r.length w hL)
  by_cases hz : P.chk r n = 0
  · by_cases hl : P.below l r.length = true
    · have he : P.argE r n r.length l = 0 := P.argE_zero.2 ⟨hz, hl⟩
      have K24 := hide (fun w => lists24_any A B c d r l w)
      have KU := hide (fun (w w' : World) (hR : Rel w A c r) (hL : Sl ic 1 w B d l) (h0 : Blk w' w.heap.size 22 #[.slice A r.length c]) (h1 : Blk w' (w.heap.size + 1) 31 #[.slice B l.length d]) (hb : Below w.heap.size w w') => by
        obtain ⟨es, e1, e2, e3⟩ := hR
        have K := un23_any w w' A B c d r n es l e1 (by exact e2) e3 hL hz hl h0 h1 hb
        exact K)
      rw [he, P.backL_ok he]
      rw [hz] at KC
      rw [hl] at KB
      generalize P.allL r n l = U at KU ⊢
      clear hz hl he
      go_enter Try.func18, Try.ntmps18
      go_wp2_with fail
      refine (KC.out).mono ?_
      rintro e w1 ⟨rfl, hb⟩
      replace hR := hR.bel hb
      replace hL := hL.bel hb
      have hB1 := hb
      clear hb KC
      go_wp2_with fail
      refine (KB.out _ hL).mono ?_
      rintro e w' ⟨rfl, rfl⟩
      go_wp2_with fail
      refine (K24.out _).mono ?_
      rintro e w2 ⟨rfl, h0, h1, hb, hs2⟩
      have hB2 := kcall hB1 hb
      have KU2 := hide (KU.out _ _ hR hL h0 h1 hb)
      clear hb h0 h1 KU K24 KB
      go_wp2_with fail
      refine (KU2.out).mono ?_
      rintro e w3 ⟨v, rfl, hO, hb⟩
      have hB3 := hide (kcall hB2 hb)
      have hO3 := hide (hO.mono hB2.size)
      clear hb hO KU2
      go_wp2
      go_ret2
      exact ⟨v, rfl, hO3.out, hB3.out⟩
    · have he : P.argE r n r.length l = 1 := by unfold P.argE; rw [if_pos hz, if_neg hl]
      rw [he, P.backL_bad (by rw [he]; decide)]
      rw [hz] at KC
      rw [show P.below l r.length = false by simpa using hl] at KB
      clear hz hl he
      go_enter Try.func18, Try.ntmps18
      go_wp2_with fail
      refine (KC.out).mono ?_
      rintro e w1 ⟨rfl, hb⟩
      replace hL := hL.bel hb
      clear KC
      go_wp2_with fail
      refine (KB.out _ hL).mono ?_
      rintro e w' ⟨rfl, rfl⟩
      go_wp2
      go_ret2
      exact ⟨_, rfl, OwnL.nil _ _ _ _ _, hb⟩
  · have he : P.argE r n r.length l = P.chk r n := by unfold P.argE; rw [if_neg hz]
    rw [P.backL_bad (by rw [he]; exact hz), he]
    generalize P.chk r n = e0 at KC hz ⊢
    clear he
    go_enter Try.func18, Try.ntmps18
    go_wp2_with fail
    refine (KC.out).mono ?_
    rintro e w1 ⟨rfl, hb⟩
    go_wp2
    go_ret2
    exact ⟨_, rfl, OwnL.nil _ _ _ _ _, hb⟩
end Go.Proofs.Ytlobgdnhmhdhbaa
