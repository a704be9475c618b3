/-
  hansardref31.all.
-/
import Derived.Test.YtlobgdnhmhdhbaaPReach
import Derived.Test.YtlobgdnhmhdhbaaMore
namespace Go.Proofs.Ytlobgdnhmhdhbaa
open Go.RowKit Go.Shelf Go.Mine

theorem Try_info4 : (Try.prog.info? 4).map (fun i => (i.zero, i.size, i.bytes)) = some (some (.bool false), 1, 1) := by kernel_rfl
def flagA (s : List Int) (m : Nat) : Array Value := ((List.range m).map fun (k : Nat) => Value.bool (s.contains (k : Int))).toArray
theorem flagA_get (s : List Int) {m k : Nat} (h : k < m) : (flagA s m)[k]? = some (.bool (s.contains (k : Int))) := by
  simp [flagA, List.getElem?_map, List.getElem?_range h]
theorem flagA_size (s : List Int) (m : Nat) : (flagA s m).size = m := by simp [flagA]
theorem flagA_set (s : List Int) (m q : Nat) : (flagA s m).setIfInBounds q (.bool true) = flagA (s ++ [(q : Int)]) m := by
  apply Array.ext_getElem?
  intro k
  by_cases hk : k < m
  · rw [flagA_get _ hk]
    by_cases e : q = k
    · subst e
      rw [Array.getElem?_setIfInBounds_self_of_lt (by rw [flagA_size]; exact hk)]
      simp
    · rw [Array.getElem?_setIfInBounds_ne e, flagA_get _ hk]
      have : ¬ ((k : Int) = (q : Int)) := by omega
      simp [this]
  · rw [Array.getElem?_eq_none (by simp [flagA_size]; omega), Array.getElem?_eq_none (by rw [flagA_size]; omega)]
def flatR (r : List (List Int)) (l : List Int) : List Int := l.flatMap (P.row r)
theorem flatR_snoc (r : List (List Int)) (l : List Int) (x : Int) : flatR r (l ++ [x]) = flatR r l ++ P.row r x := by simp [flatR]
theorem flatR_in (r : List (List Int)) (l : List Int) (s : Int) : (flatR r l).contains s = P.inAll r l s := by
  rw [Bool.eq_iff_iff, P.inAll_iff, List.contains_iff_mem]
  simp [flatR]
set_option maxHeartbeats 4000000 in
theorem all25_any (A B : Option Addr) (c d : Nat) (r : List (List Int)) (n : Int) (l : List Int) (w : World) (hR : Rel w A c r) (hL : Sl ic 1 w B d l) (hz : P.chk r n = 0) (hl : P.below l r.length = true) :
    Calls Try.prog 25 #[.slice A r.length c, .int .i64 n, .slice B l.length d] w fun e w' => ∃ v, e = .returned v ∧ OwnL ic 1 3 w' w.heap.size v (P.allL r n l) ∧ Below w.heap.size w w' := by
  have a1 := hR.le
  have a2 := hR.max
  have a3 := hL.le
  have a4 := hL.max
  obtain ⟨z1, z2, z3, z4⟩ := P.chk_zero.1 hz
  obtain ⟨m, rfl⟩ : ∃ m : Nat, n = (m : Int) := ⟨n.toNat, by omega⟩
  have hlb := ((P.below_iff _ _).1 hl).1
  have hrow : ∀ x ∈ r, ∀ y ∈ x, 0 ≤ y ∧ y < (m : Int) := fun x hx => ((P.below_iff _ _).1 (z4 x hx)).1
  obtain ⟨i0, hi, hz0, hz1, hz2⟩ := info_parts Try_info3
  have HI := hide hi
  obtain ⟨i4, hi4, hy0, hy1, hy3⟩ := info_parts Try_info4
  have hmk := fun W => run_make_rowN (P := Try.prog) 39 4 i4 (.bool false) Try.underlying39 hi4 hy0 .i64 .i64 m m (Nat.le_refl _) (by rw [hy3]; omega) (by omega) W
  have hm0 : madeCells (Value.bool false).cells (m * i4.size) = flagA [] m := by
    rw [hy1, Nat.mul_one]
    apply Array.toList_inj.1
    rw [show (Value.bool false).cells = #[Value.bool false] from rfl, toList_madeCells_one]
    simp only [flagA, List.contains_nil, List.map_const', List.length_range]
  rw [hm0] at hmk
  have HF := hide (show P.allL r m l = (P.rng (m : Int)).filter (fun s => (flatR r l).contains s) by
    unfold P.allL; exact List.filter_congr fun s _ => (flatR_in r l s).symm)
  rw [HF.out]
  obtain ⟨F, hF⟩ : ∃ F, flatR r l = F := ⟨_, rfl⟩
  rw [hF]
  replace hF := hide hF
  clear HF
  clear hz hl hi hi4 hy0 hy1 hy3 hm0 z2 z4
  go_enter Try.func25, Try.ntmps25
  go_wp2
  clear hmk
  go_loopw [8] (fun i wr => ∃ k : Nat, k ≤ l.length ∧ i = .int .i64 k ∧ Below w.heap.size w wr ∧ Blk wr w.heap.size 4 (flagA (flatR r (l.take k)) m)) (fun i _ => l.length - (nI i).toNat)
  case atStart => exact ⟨0, Nat.zero_le _, rfl, kalloc (Below.refl _ _) _, by simpa [flatR] using Blk.new w (flagA [] m) 4⟩
  case round =>
    obtain ⟨k, hk, rfl, hb, hI⟩ := hrel
    by_cases hlt : k < l.length
    · obtain ⟨x, bl, ol, hx, hdr, rfl, hbl, c1⟩ := hL.ic_at hlt
      have hxb := hlb x (List.mem_of_getElem? hx)
      obtain ⟨q, rfl⟩ : ∃ q : Nat, x = (q : Int) := ⟨x.toNat, by omega⟩
      have hq : q < r.length := by omega
      obtain ⟨y, br, or_, B2, d2, hy, hdr2, rfl, hbr, c2, hY⟩ := hR.at_ hq
      have hyb := hide (hrow y (List.mem_of_getElem? hy))
      have hye : P.row r (q : Int) = y := by unfold P.row; rw [List.getD_eq_getElem?_getD, Int.toNat_natCast, hy]; rfl
      have e1 := hide (show flatR r (l.take k) ++ y = flatR r (l.take (k + 1)) by rw [take_of_get hx, flatR_snoc, hye])
      have a5 := hY.le
      have a6 := hY.max
      have hqi : (q : Int) < (r.length : Int) := by omega
      have f1 := (hb.cell (p := ⟨bl, ol + k, none⟩) hbl).trans c1
      have f2 := (hb.cell (p := ⟨br, or_ + q, none⟩) hbr).trans c2
      have HI2 := hide hI
      generalize flatR r (l.take k) = pre at *
      clear hdr hdr2 hx hy hxb hye hI hR hL hrow
      go_wp2
      go_loopw [9] (fun j wr => ∃ h : Nat, h ≤ y.length ∧ j = .int .i64 h ∧ Below w.heap.size w wr ∧ Blk wr w.heap.size 4 (flagA (pre ++ y.take h) m)) (fun j _ => y.length - (nI j).toNat)
      case atStart => exact ⟨0, Nat.zero_le _, rfl, hb, by simpa using HI2.out⟩
      case round =>
        obtain ⟨h, hh, rfl, hb3, hI3⟩ := hrel
        have f1 := (hb3.cell (p := ⟨bl, ol + k, none⟩) hbl).trans c1
        have f2 := (hb3.cell (p := ⟨br, or_ + q, none⟩) hbr).trans c2
        by_cases hlh : h < y.length
        · obtain ⟨z, bz, oz, hz, hdr3, rfl, hbz, c3⟩ := hY.ic_at hlh
          have hzb := hyb.out z (List.mem_of_getElem? hz)
          obtain ⟨t, rfl⟩ : ∃ t : Nat, z = (t : Int) := ⟨z.toNat, by omega⟩
          have htm : (t : Int) < (m : Int) := hzb.2
          have f3 := (hb3.cell (p := ⟨bz, oz + h, none⟩) hbz).trans c3
          have e2 := hide (show flagA ((pre ++ y.take h) ++ [(t : Int)]) m = flagA (pre ++ y.take (h + 1)) m by rw [take_of_get hz, List.append_assoc])
          have hco := hI3.cell t (flagA_get _ (show t < m by omega))
          have hth := hI3.thaw t
          have hIlt := hI3.lt
          have HI3 := hide hI3
          clear hdr3 hz hI3 hzb HI2 hY
          go_wp2
          go_roundw
          case rel => exact ⟨h + 1, by omega, by go_num, hb3.setCell (by dsimp only; omega) _, by rw [← e2.out, ← flagA_set]; exact HI3.out.set t _ rfl⟩
          case measure => simp [nI]; omega
        · obtain rfl : h = y.length := by omega
          rw [List.take_length, e1.out] at hI3
          have HI3 := hide hI3
          clear hI3 HI2
          go_wp2
          go_roundw
          case rel => exact ⟨k + 1, by omega, by go_num, hb3, HI3.out⟩
          case measure => simp [nI]; omega
    · obtain rfl : k = l.length := by omega
      rw [List.take_length, hF.out] at hI
      have HI2 := hide hI
      have hIlt := hI.lt
      clear hI hR hL hrow hlb
      go_wp2
      go_loopw [10, 11] (fun v i wr => ∃ k : Nat, k ≤ m ∧ i = .int .i64 k ∧ Below w.heap.size w wr ∧ Blk wr w.heap.size 4 (flagA F m) ∧ OwnL ic 1 3 wr (w.heap.size + 1) v ((P.rng k).filter (fun s => F.contains s))) (fun _ i _ => m - (nI i).toNat)
      case atStart => exact ⟨0, Nat.zero_le _, rfl, hb, HI2.out, OwnL.nil _ _ _ _ _⟩
      case round =>
        obtain ⟨k, hk, rfl, hb3, hI3, hO⟩ := hrel
        have hN := hb3.size
        by_cases hlk : k < m
        · have hco := hI3.cell k (flagA_get _ hlk)
          have hIlt3 := hI3.lt
          have hkm : (k : Int) < (m : Int) := by omega
          have e1 := hide (show (P.rng ((k + 1 : Nat) : Int)).filter (fun s => F.contains s) = (P.rng k).filter (fun s => F.contains s) ++ (if F.contains (k : Int) = true then [(k : Int)] else []) by
            rw [Int.natCast_succ, P.rng_succ, List.filter_append, List.filter_cons, List.filter_nil])
          have hll : ((P.rng k).filter (fun s => F.contains s)).length ≤ 4096 := by
            have := List.length_filter_le (fun s => F.contains s) (P.rng k)
            rw [P.rng_length] at this
            omega
          have HI3 := hide hI3
          have HO := hide hO
          generalize (P.rng k).filter (fun s => F.contains s) = La at *
          generalize F.contains (k : Int) = v at hco e1
          clear hI3 hO HI2
          cases v
          · go_wp2
            go_roundw
            case rel => exact ⟨k + 1, by omega, by go_num, hb3, HI3.out, by rw [e1.out]; simpa using HO.out⟩
            case measure => simp [nI]; omega
          · go_wp2_with (at_builtin; refine wpList_push (f := ic) (y := (k : Int)) (l := La) rfl (.tmp 53) (.tmp 55) 31 rfl Try.underlying31 HI.out hz0 hz1 hz2 rfl (by decide) rfl (HO.out.alloc _) rfl (heap_new _ _) rfl rfl ?_ ?_ ?_ ?_ ?_)
            · simp [Value.oneCell', ic]
            · simp only [maxLen]; omega
            · omega
            · intro v6 w6 hO6 hgr hat
              have H6 := hide hO6
              have hb6 := hide (Below.grown (hb3.alloc hN (Obj.cells #[.int .i64 k] 3)) hgr (by simp; omega) (fun g hg => by have := (HO.out.blk hg).1; omega))
              have hI6 := hide ((HI3.out.alloc (Obj.cells #[.int .i64 k] 3)).grown hgr (fun e => by have := (HO.out.blk e.symm).1; omega))
              clear hO6 hgr hat HO HI3
              go_wp2
              go_roundw
              case rel => exact ⟨k + 1, by omega, by go_num, hb6.out, hI6.out, by rw [e1.out]; simpa using H6.out⟩
              case measure => simp [nI]; omega
        · obtain rfl : k = m := by omega
          obtain ⟨A2, c2, rfl, -⟩ := hO.sl
          have HO := hide (hO.mono (show w.heap.size ≤ w.heap.size + 1 by omega))
          clear hO hI3 HI2
          go_wp2
          go_ret
          exact ⟨_, rfl, HO.out, hb3⟩
end Go.Proofs.Ytlobgdnhmhdhbaa
