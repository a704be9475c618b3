/-
  A set of numbers: add, the closure that looks it up; ContainsFunc with it.
-/
import Derived.Test.YtlobgdnhmhdhbaaPRef
namespace Go.Proofs.Ytlobgdnhmhdhbaa
open Go.RowKit Go.Shelf Go.Mine

def setM (s : List Int) : Int → Option Value := fun k => if k ∈ s then some (.bool true) else none
theorem setM_add (s : List Int) (x : Int) : upd (setM s) x (.bool true) = setM (s ++ [x]) := by
  funext j
  unfold upd setM
  by_cases h : j = x
  · subst h; simp
  · simp [h]
theorem setM_nil : setM [] = fun _ => none := by funext j; simp [setM]
theorem setM_some (s : List Int) (k : Int) : (setM s k).isSome = true ↔ k ∈ s := by unfold setM; split <;> simp_all
theorem setM_get (s : List Int) (k : Int) : (setM s k).getD (.bool false) = .bool (s.contains k) := by
  unfold setM
  by_cases h : k ∈ s
  · rw [if_pos h]; simp [h]
  · rw [if_neg h]; simp [h]
theorem map_apart {P : Program} {K : TypeId} {w : World} {b n : Nat} {m : Int → Option Value} (h : MapI P K w b n m) {p : Addr} {v : Value} (hc : w.cell? p = some v) : p.block ≠ b := by
  rintro rfl
  obtain ⟨D, ⟨es, clock, hb, _⟩, _⟩ := h
  simp [World.cell?, hb] at hc
set_option maxHeartbeats 1000000 in
theorem add29_any (b n : Nat) (s : List Int) (A : Option Addr) (c : Nat) (l : List Int) (w : World) (h : MapI Try.prog 3 w b n (setM s)) (hS : Sl ic 1 w A c l) (hI : ∀ y ∈ l, I64 y) (hn : n + l.length ≤ 1000000000) :
    Calls Try.prog 29 #[.map (some b), .slice A l.length c] w fun e w' => e = .returned (.tuple #[]) ∧ MapI Try.prog 3 w' b (n + l.length) (setM (s ++ l)) ∧ w.grownBy w' (some b) := by
  have hlc := hS.le
  have hc := hS.max
  go_enter Try.func29, Try.ntmps29
  go_wp2
  go_loopw [8] (fun i wr => ∃ k : Nat, k ≤ l.length ∧ i = .int .i64 k ∧ MapI Try.prog 3 wr b (n + k) (setM (s ++ l.take k)) ∧ w.grownBy wr (some b)) (fun i _ => l.length - (nI i).toNat)
  case atStart => exact ⟨0, Nat.zero_le _, rfl, by simpa using h, World.grownBy.refl w _⟩
  case round =>
    obtain ⟨k, hk, rfl, hM, hg⟩ := hrel
    by_cases hlt : k < l.length
    · obtain ⟨x, bb, off, hx, hdr, rfl, hbw, c0⟩ := Sl.ic_at hS hlt
      have hbb := map_apart h c0
      have c1 := gcell hg hbw (fun e => hbb (Option.some.inj e)) c0
      have hbr : bb < wr.heap.size := Nat.lt_of_lt_of_le hbw hg.size
      have hix := hI x (List.mem_of_getElem? hx)
      have e1 := hide (take_of_get hx)
      have HM := hide hM
      have HG := hide hg
      clear hdr hx hS h hI hM hg c0 hbb
      go_wp2_with (at_mapUpdate; refine wpList_put rfl (.tmp 12) (.tmp 13) (.const (.bool true)) 48 rfl Try.underlying3 Try.underlying48 rfl HM.out ?_ rfl hix rfl ?_)
      · unfold maxLen; omega
      · intro w1 hM1 hg1
        rw [setM_add, List.append_assoc, ← e1.out] at hM1
        have hG1 := hide (gb_trans HG.out hg1)
        replace hM1 := hide hM1
        clear hg1 HG HM
        go_wp2
        go_roundw
        case rel => exact ⟨k + 1, by omega, by go_num, hM1.out, hG1.out⟩
        case measure => simp [nI]; omega
    · obtain rfl : k = l.length := by omega
      rw [List.take_length] at hM
      have HM := hide hM
      clear hM
      go_wp2
      go_end0
      exact ⟨rfl, HM.out, hg⟩
theorem look31_any (k : Int) (p b n : Nat) (s : List Int) (w : World) (hk : I64 k) (hp : Blk w p 48 #[.map (some b)]) (h : MapI Try.prog 3 w b n (setM s)) :
    Calls Try.prog 31 #[.int .i64 k, .pointer (some ⟨p, 0, none⟩)] w fun e w' => e = .returned (.bool (s.contains k)) ∧ w = w' := by
  have y0 := hp.cell (v := .map (some b)) 0 rfl
  have z0 := hp.lt
  have hl := h.look Try.underlying3 Try.underlying48 (Try.zeroValue4 w) hk
  rw [setM_get] at hl
  generalize s.contains k = r at hl ⊢
  clear hp h
  go_enter Try.func31, Try.ntmps31
  go_wp2
  go_ret
  exact ⟨rfl, rfl⟩
set_option maxHeartbeats 1000000 in
theorem index35_any (A : Option Addr) (c : Nat) (l : List Int) (p b n : Nat) (s : List Int) (w : World) (hS : Sl ic 1 w A c l) (hI : ∀ y ∈ l, I64 y) (hp : Blk w p 48 #[.map (some b)]) (h : MapI Try.prog 3 w b n (setM s)) :
    Calls Try.prog 35 #[.slice A l.length c, .func (.func 31) #[] #[.pointer (some ⟨p, 0, none⟩)]] w fun e w' => (∃ i : Int, e = .returned (.int .i64 i) ∧ decide (0 ≤ i) = P.meets s l) ∧ w = w' := by
  have hlc := hS.le
  have hc := hS.max
  have KW := hide (fun k hk => look31_any k p b n s w hk hp h)
  clear hp h
  go_enter Try.func35, Try.ntmps35
  go_wp2
  go_loop [8] (fun i => ∃ k : Nat, k ≤ l.length ∧ i = .int .i64 k ∧ P.meets s l = P.meets s (l.drop k)) (fun i => l.length - (nI i).toNat)
  case atStart => exact ⟨0, Nat.zero_le _, rfl, rfl⟩
  case round =>
    obtain ⟨k, hk, rfl, hq⟩ := hrel
    by_cases hlt : k < l.length
    · obtain ⟨x, bb, off, hx, hdr, rfl, hbw, c1⟩ := Sl.ic_at hS hlt
      rw [hdr, P.meets, P.meets, List.any_cons] at hq
      have K := hide (KW.out x (hI x (List.mem_of_getElem? hx)))
      generalize s.contains x = r at K hq
      clear hdr hx hS hI
      cases r
      · rw [Bool.false_or] at hq
        have H := hide hq
        clear hq
        go_wp2_with fail
        refine (K.out).mono ?_
        rintro e w' ⟨rfl, rfl⟩
        go_wp2
        go_round
        case rel => exact ⟨k + 1, by omega, by go_num, H.out⟩
        case measure => simp [nI]; omega
      · rw [Bool.true_or] at hq
        have H := hide hq
        clear hq
        go_wp2_with fail
        refine (K.out).mono ?_
        rintro e w' ⟨rfl, rfl⟩
        go_wp2
        go_ret
        exact ⟨⟨_, rfl, by rw [P.meets, H.out]; simp⟩, rfl⟩
    · rw [List.drop_of_length_le (by omega)] at hq
      have H := hide hq
      clear hq
      go_wp2
      go_ret
      exact ⟨⟨_, rfl, by rw [H.out]; rfl⟩, rfl⟩
theorem contains30_any (A : Option Addr) (c : Nat) (l : List Int) (p b n : Nat) (s : List Int) (w : World) (hS : Sl ic 1 w A c l) (hI : ∀ y ∈ l, I64 y) (hp : Blk w p 48 #[.map (some b)]) (h : MapI Try.prog 3 w b n (setM s)) :
    Calls Try.prog 30 #[.slice A l.length c, .func (.func 31) #[] #[.pointer (some ⟨p, 0, none⟩)]] w fun e w' => e = .returned (.bool (P.meets s l)) ∧ w = w' := by
  have K := hide (index35_any A c l p b n s w hS hI hp h)
  generalize P.meets s l = r at K
  clear hp hS h hI
  go_enter Try.func30, Try.ntmps30
  go_wp2_with fail
  refine (K.out).mono ?_
  rintro e w' ⟨⟨i, rfl, hi⟩, rfl⟩
  go_wp2
  go_ret
  exact ⟨ret_bool (by first | rfl | exact hi), rfl⟩
def hv (e : Hd) : Value := .slice e.1 e.2.2.length e.2.1
theorem lists24_any (A B : Option Addr) (c d : Nat) (r : List (List Int)) (l : List Int) (w : World) :
    Calls Try.prog 24 #[.slice A r.length c, .slice B l.length d] w fun e w' => e = .returned (.func (.func 33) #[] #[.pointer (some ⟨w.heap.size + 1, 0, none⟩), .pointer (some ⟨w.heap.size, 0, none⟩)]) ∧
      Blk w' w.heap.size 22 #[.slice A r.length c] ∧ Blk w' (w.heap.size + 1) 31 #[.slice B l.length d] ∧ Below w.heap.size w w' ∧ w'.heap.size = w.heap.size + 2 := by
  go_enter Try.func24, Try.ntmps24
  go_wp2
  go_ret
  exact ⟨rfl, (Blk.new _ _ _).alloc _, Blk.new1 _ _ _ _, kalloc (kalloc (Below.refl _ _) _) _, by simp⟩
end Go.Proofs.Ytlobgdnhmhdhbaa
