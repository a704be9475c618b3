/-
  QueueLess: parts of rows of jobs; a plan's bounds; fewer, easier, moved jobs are right.
-/
import Derived.Test.YtbkokljelopcnaaJWork
namespace Go.Proofs.Ytbkokljelopcnaa
open Go.RowKit Go.Mine Go.Mine.Q
theorem jb_one (l : List Jb) : ∀ x ∈ l, ∀ u ∈ jbC x, u.oneCell' = true := by
  intro x _ u hu; simp [jbC] at hu; rcases hu with rfl | rfl | rfl | rfl | rfl <;> rfl
theorem run_ext_jb {P : Program} {w : World} {t ty e : TypeId} {base : Nat} {i : TypeInfo} {z : Value} {bytes : Nat} (ht : P.underlying t = some (.slice e)) (hi : P.info? e = some i) (hz : i.zero = some z)
    (hsize : i.size = 5) (hby : i.bytes = bytes) (hzs : z.cells.size = 5) {v : Value} {l1 l2 : List Jb} (hown : OwnL jbC 5 e w base v l1) {A : Option Addr} {c n : Nat} (hn : l2.length = n) (h2 : Sl jbC 5 w A c l2)
    (h63 : l1.length + n ≤ maxLen) (hbytes : (l1.length + n) * bytes ≤ 140737488355328) (hbase : base ≤ w.heap.size) :
    ∃ v' w', (Builtin.append_ #[t, t] ty #[v, .slice A n c]).run P w = .ok v' w' ∧ OwnL jbC 5 e w' base v' (l1 ++ l2) ∧ w.grownBy w' v.ownBlock ∧ (∀ g, v'.ownBlock = some g → v.ownBlock = some g ∨ w.heap.size ≤ g) := by
  subst hn
  exact run_extend ht hi hz hsize hby hzs (by decide) hown h2 (jb_one _) h63 hbytes hbase
theorem jb_part {w : World} {b off c c' : Nat} {l : List Jb} (h : Sl jbC 5 w (some ⟨b, off, none⟩) c l) (k : Nat) (hc : l.length - k ≤ c') (hc2 : c' ≤ 9223372036854775807) : Sl jbC 5 w (some ⟨b, off + k * 5, none⟩) c' (l.drop k) := by
  refine ⟨by simpa using hc, hc2, fun _ _ => rfl, fun hn => ?_⟩
  have hkl : k < l.length := by
    rcases Nat.lt_or_ge k l.length with h' | h'
    · exact h'
    · exact absurd (List.drop_of_length_le h') hn
  obtain ⟨b', off', e, hb, hcell⟩ := h.cells (by rintro rfl; simp at hn)
  simp only [Option.some.injEq, Addr.mk.injEq, and_true] at e
  obtain ⟨rfl, rfl⟩ := e
  refine ⟨b, off + k * 5, rfl, hb, fun i v hv => ?_⟩
  rw [Nat.add_assoc]
  refine hcell (k * 5 + i) v ?_
  have e1 : l.flatMap jbC = (l.take k).flatMap jbC ++ (l.drop k).flatMap jbC := by rw [← List.flatMap_append, List.take_append_drop]
  have e2 : ((l.take k).flatMap jbC).length = k * 5 := by
    rw [flat_length jbC 5 _ (fun _ _ => rfl)]; simp; omega
  rw [e1, List.getElem?_append_right (by omega), e2, Nat.add_sub_cancel_left]; exact hv
theorem jb_take {w : World} {A : Option Addr} {c : Nat} {l : List Jb} (h : Sl jbC 5 w A c l) (k : Nat) : Sl jbC 5 w A c (l.take k) := by
  refine ⟨Nat.le_trans (List.length_take_le' _ _) h.le, h.max, fun _ _ => rfl, fun hn => ?_⟩
  obtain ⟨b, off, e, hb, hc⟩ := h.cells (by rintro rfl; simp at hn)
  refine ⟨b, off, e, hb, fun i v hv => hc i v ?_⟩
  have e1 : l.flatMap jbC = (l.take k).flatMap jbC ++ (l.drop k).flatMap jbC := by rw [← List.flatMap_append, List.take_append_drop]
  rw [e1, List.getElem?_append_left (List.getElem?_eq_some_iff.1 hv).1]; exact hv
theorem plan_bound {l : List Jb} (h : okL l = true) (ho : runOk l = true) : ∀ x ∈ plan l, 0 ≤ x.f ∧ x.f ≤ 1099511627776 ∧ 0 ≤ x.u ∧ x.u ≤ 1099511627776 := by
  intro x hx
  have h1 := plan_acc h ho
  unfold acc at h1
  rw [Bool.and_eq_true] at h1
  obtain ⟨i, hi⟩ := List.getElem?_of_mem hx
  obtain ⟨⟨y, g1, g2, g3, g4⟩, _⟩ := acc_at h1.1 hi
  have := rightJ_iff.1 ((okL_iff.1 h).1 y (jobOf_some g1).1)
  omega
theorem runS_bound {l : List Jb} (h : chk l = 0) : ∀ x ∈ runS l, 0 ≤ x.f ∧ x.f ≤ 1099511627776 ∧ 0 ≤ x.u ∧ x.u ≤ 1099511627776 := by
  obtain ⟨_, _, hok⟩ := right_of h
  unfold runS
  split
  · rename_i hb
    refine plan_bound hok ?_
    unfold runB at hb
    rw [Bool.and_eq_true] at hb; exact hb.2
  · simp
theorem runS_len {l : List Jb} (h64 : l.length ≤ 64) : (runS l).length ≤ 128 := by
  unfold runS
  split
  · exact plan_len h64
  · simp
theorem chk_ok {l : List Jb} (h : l.length ≤ 64) (ho : okL l = true) : chk l = 0 := chk_zero.2 ⟨h, ho⟩
/-- all jobs a time later -/
theorem moved_all {l : List Jb} (h : chk l = 0) {d : Int} (hd : 0 ≤ d) (hx : ∀ x ∈ l, x.due + d ≤ 1099511627776) : chk (l.map (shJ d)) = 0 ∧ runB (l.map (shJ d)) = runB l ∧ runS (l.map (shJ d)) = (runS l).map (shS d) := by
  obtain ⟨hr, h64, hok⟩ := right_of h
  have h1 : chk (l.map (shJ d)) = 0 := chk_ok (by simpa using h64) (okL_sh hok hd hx)
  have h2 : runB (l.map (shJ d)) = runB l := by unfold runB; rw [h1, h, runOk_sh hr hd]
  refine ⟨h1, h2, ?_⟩
  unfold runS
  rw [h2, plan_sh hr hd]
  split <;> rfl
theorem less_all {l : List Jb} (h : chk l = 0) (ho : runOk l = true) (k : Nat) : chk (l.take k ++ l.drop (k + 1)) = 0 ∧ runB (l.take k ++ l.drop (k + 1)) = true := by
  obtain ⟨hr, h64, hok⟩ := right_of h
  have hs : (l.take k ++ l.drop (k + 1)).Sublist l := by
    conv => rhs; rw [← List.take_append_drop k l]
    refine List.Sublist.append (List.Sublist.refl _) ?_
    rw [← List.drop_drop]
    exact List.drop_sublist _ _
  have h1 : chk (l.take k ++ l.drop (k + 1)) = 0 := chk_ok (Nat.le_trans hs.length_le h64) (okL_sub hok hs)
  refine ⟨h1, ?_⟩
  unfold runB
  rw [h1, ok_sub hok hs ho]; rfl
theorem easy_all {l : List Jb} (h : chk l = 0) (ho : runOk l = true) {k : Nat} {x : Jb} (hx : l[k]? = some x) {early late : Int} (he : 0 ≤ early) (hl : 0 ≤ late) : chk (l.set k (easier x early late)) = 0 ∧ runB (l.set k (easier x early late)) = true := by
  obtain ⟨hr, h64, hok⟩ := right_of h
  obtain ⟨h1, h2⟩ := ok_easy hok hx he hl ho
  have h3 : chk (l.set k (easier x early late)) = 0 := chk_ok (by simpa using h64) h1
  refine ⟨h3, ?_⟩
  unfold runB
  rw [h3, h2]; rfl
end Go.Proofs.Ytbkokljelopcnaa
