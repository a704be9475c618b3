/-
  spans.Total.
-/
import Derived.Test.YtbfgbkblblnbhaaSCaught
namespace Go.Proofs.Ytbfgbkblblnbhaa
open Go.RowKit Go.Mine Go.Mine.H Go.Mine.S

def totR (l : List Sp) : Int := if chkS l = 0 then tot l else 0
theorem good_mem : ∀ (l : List Sp) (last : Int), good last l → -1 ≤ last → ∀ x ∈ l, 0 ≤ x.1 ∧ x.1 < x.2 ∧ x.2 ≤ 1099511627776
  | [], _, _, _, x, hx => by cases hx
  | y :: r, last, ⟨h1, h2, h3, h4⟩, hl, x, hx => by
    rcases List.mem_cons.1 hx with rfl | hx
    · omega
    · exact good_mem r y.2 h4 (by omega) x hx
theorem tot_take {l : List Sp} {k : Nat} {x : Sp} (h : l[k]? = some x) : tot (l.take (k + 1)) = tot (l.take k) + (x.2 - x.1) := by
  rw [take_of_get h, tot_append]; simp [tot]

set_option maxHeartbeats 1000000 in
theorem sTotal_any (A : Option Addr) (c : Nat) (l : List Sp) (w : World) (hS : Sl bc 2 w A c l) :
    Calls Try.prog 33 #[.slice A l.length c] w fun e w' => e = .returned (.tuple #[.int .i64 (totR l), .int .i64 (chkS l)]) ∧ Below w.heap.size w w' := by
  have K := hide (fun b w (hL : SlSl w b 1 [l]) => scheck_any b 1 [l] w hL (by simp))
  rw [chkAll_one] at K
  by_cases hz : chkS l = 0
  · rw [endC_ok hz] at K
    obtain ⟨hg, hl4⟩ := chkS_good hz
    have hm := hide (good_mem l _ hg (by omega))
    have E := hide (show totR l = tot l by unfold totR; rw [if_pos hz])
    rw [hz]
    clear hz hg
    have hlc := hS.le
    have hcm := hS.max
    go_enter_defers Try.func33, Try.ntmps33
    go_wp2_with fail
    refine (K.out _ _ (slsl_one (Blk.new1 w _ _ 30) ((hS.alloc _).alloc _))).mono ?_
    rintro e w2 ⟨rfl, hb⟩
    (have hB := kcall (kalloc (kalloc (Below.refl w.heap.size w) _) _) hb; have be := ((Blk.new w #[.int .i64 0] 25).alloc (Obj.cells #[.slice A l.length c] 30)).bel hb)
    have S2 := hide (((hS.alloc _).alloc _).bel hb)
    replace be := hide be
    clear hb K
    go_wp2_with fail
    go_loopw [2, 11] (fun v i wr => ∃ k : Nat, k ≤ l.length ∧ i = .int .i64 k ∧ v = .int .i64 (tot (l.take k)) ∧ 0 ≤ tot (l.take k) ∧ tot (l.take k) ≤ (k : Int) * 1099511627776 ∧ Below w2.heap.size w2 wr) (fun _ i _ => l.length - (intOf i).toNat)
    case atStart => exact ⟨0, by omega, rfl, rfl, by simp [tot], by simp [tot], Below.refl _ _⟩
    case round =>
      obtain ⟨k, hk, rfl, rfl, t1, t2, hbr⟩ := hrel
      have hN := hbr.size
      by_cases hlt : k < l.length
      · obtain ⟨x, bb, off, hx, -, rfl, hbw, f1, f2⟩ := sl_at (S2.out.bel hbr) hlt
        obtain ⟨x1, x2, x3⟩ := hm.out x (List.mem_of_getElem? hx)
        have hT := tot_take hx
        clear hx
        have HT := hide hT
        clear hT
        generalize tot (l.take k) = T at HT t1 t2
        go_wp2_with fail
        go_roundw
        case rel => exact ⟨k + 1, by omega, by go_num, by rw [HT.out], by rw [HT.out]; omega, by rw [HT.out]; omega, hbr.alloc hN _⟩
        case measure => simp [intOf]; omega
      · obtain rfl : k = l.length := by omega
        rw [List.take_length]
        have y0 := (be.out.bel hbr).cell (v := .int .i64 0) 0 rfl
        have z0 := (be.out.bel hbr).thaw 0
        generalize tot l = T at *
        clear S2 hm
        go_wp2_with fail
        (refine leaves_cons (f := 59) (args := #[.pointer (some ⟨w.heap.size, 0, none⟩)]) (by simp) (by simp [go_sem]) ?_)
        refine (caught_idle _ _).mono ?_
        rintro e u' w'' ⟨rfl, rfl, rfl⟩
        exact ⟨_, by simp [results, Try.results33, go_sem, y0]; rfl, by rw [E.out], (kcall hB hbr).setCell (by dsimp only; omega) _⟩
  · rw [endC_bad hz] at K
    have E := hide (show totR l = 0 by unfold totR; rw [if_neg hz])
    clear hz
    go_enter_defers Try.func33, Try.ntmps33
    go_wp2_with fail
    refine (K.out _ _ (slsl_one (Blk.new1 w _ _ 30) ((hS.alloc _).alloc _))).mono ?_
    rintro e w2 ⟨rfl, hb⟩
    (have hB := kcall (kalloc (kalloc (Below.refl w.heap.size w) _) _) hb; have be := ((Blk.new w #[.int .i64 0] 25).alloc (Obj.cells #[.slice A l.length c] 30)).bel hb)
    have y0 := be.cell (v := .int .i64 0) 0 rfl
    have z0 := be.thaw 0
    replace be := hide be
    clear hb
    go_wp2_with fail
    (refine leaves_cons (f := 59) (args := #[.pointer (some ⟨w.heap.size, 0, none⟩)]) (by simp) (by simp [go_sem]) ?_)
    refine (caught_panicking _ 0 (chkS l) [] _ y0 z0).mono ?_
    rintro e u' w'' ⟨rfl, rfl, rfl⟩
    exact ⟨_, by simp [results, Try.results33, go_sem, y0]; rfl, by rw [E.out], hB.setCell (by dsimp only; omega) _⟩
end Go.Proofs.Ytbfgbkblblnbhaa
