/-
  slices.SortStableFunc at structs: what the walks ask of the program; slices.swapRangeCmpFunc.
  slices.rotateCmpFunc.
  slices.symMergeCmpFunc: one element alone in the first row, or in the second.
  slices.symMergeCmpFunc: one element alone in the second row.
  slices.symMergeCmpFunc: the halves.
  slices.symMergeCmpFunc, whole.
  slices.SortStableFunc at structs.
  slices.stableCmpFunc, SortStableFunc.
-/
import Derived.Test.YtnngemgfochodaaGreatProg
import Derived.Test.YtnngemgfochodaaGreatBase
import Derived.Test.YtnngemgfochodaaGreatTM1
import Derived.Shelf.SlSortCmp.KitK
namespace Go.Proofs.YtnngemgfochodaaGreat
open Go.RowKit Go.Shelf Go.Sort Go.Mine Go.Mine.B Go.Proofs

/-- what the walks ask of the program: its functions, and its types; k: the cells of an element -/
structure StT (P : Program) (k : Nat) : Prop where
  mixed : P.follows .mixedOrders = true
  f64 : P.funcs[49]? = some Tryz.f49
  f68 : P.funcs[62]? = some Tryz.f62
  f69 : P.funcs[63]? = some Tryz.f63
  f70 : P.funcs[80]? = some Tryz.f80
  f71 : P.funcs[98]? = some Tryz.f98
  t0 : P.underlying 0 = some (TypeDesc.tuple #[])
  a0 : ∀ w, (isAgg 0).run P w = .ok false w
  z0 : ∀ w, (Go.sizeOf 0).run P w = .ok 1 w
  v0 : ∀ w, (zeroValue 0).run P w = .ok (Value.tuple #[]) w
  t3 : P.underlying 3 = some (TypeDesc.int IntKind.i64)
  a3 : ∀ w, (isAgg 3).run P w = .ok false w
  z3 : ∀ w, (Go.sizeOf 3).run P w = .ok 1 w
  v3 : ∀ w, (zeroValue 3).run P w = .ok (Value.int IntKind.i64 0) w
  t4 : P.underlying 4 = some (TypeDesc.bool)
  a4 : ∀ w, (isAgg 4).run P w = .ok false w
  z4 : ∀ w, (Go.sizeOf 4).run P w = .ok 1 w
  v4 : ∀ w, (zeroValue 4).run P w = .ok (Value.bool false) w
  t23 : P.underlying 23 = some (TypeDesc.slice 38)
  a23 : ∀ w, (isAgg 23).run P w = .ok false w
  z23 : ∀ w, (Go.sizeOf 23).run P w = .ok 1 w
  v23 : ∀ w, (zeroValue 23).run P w = .ok (Value.slice none 0 0) w
  t70 : P.underlying 54 = some (TypeDesc.func #[38, 38] #[3] false)
  a70 : ∀ w, (isAgg 54).run P w = .ok false w
  z70 : ∀ w, (Go.sizeOf 54).run P w = .ok 1 w
  v70 : ∀ w, (zeroValue 54).run P w = .ok (Value.nilFunc) w
  t89 : P.underlying 134 = some (TypeDesc.int IntKind.u64)
  a89 : ∀ w, (isAgg 134).run P w = .ok false w
  z89 : ∀ w, (Go.sizeOf 134).run P w = .ok 1 w
  v89 : ∀ w, (zeroValue 134).run P w = .ok (Value.int IntKind.u64 0) w
  aE : ∀ w, (isAgg 38).run P w = .ok true w
  zE : ∀ w, (Go.sizeOf 38).run P w = .ok k w

variable {P : Program} {k : Nat} {enc : Tr → List Value} {w0 W : World} {blk off : Nat} {d0 dk : Array Tr}

/-- n elements from a on and from b on change places -/
def swapR : Nat → Array Tr → Nat → Nat → Array Tr
  | 0, d, _, _ => d
  | n + 1, d, a, b => swapR n (swp d a b) (a + 1) (b + 1)
theorem size_swapR : ∀ (n : Nat) (d : Array Tr) (a b : Nat), (swapR n d a b).size = d.size
  | 0, _, _, _ => rfl
  | n + 1, d, a, b => by rw [swapR, size_swapR n, size_swp]

set_option maxHeartbeats 4000000 in
set_option maxRecDepth 1000000 in
theorem swapRange71 (T : StT P k) (R : RowK enc k w0 blk off d0) (hW : SWK enc k w0 blk off dk W) (hs : dk.size = d0.size) (a b n cap : Nat) (ha : a + n ≤ d0.size) (hb : b + n ≤ d0.size) (hsz : d0.size < 4611686018427387904) (fn : Value) :
    Calls P 98 #[.slice (some ⟨blk, off, none⟩) d0.size cap, .int .i64 a, .int .i64 b, .int .i64 n, fn] W fun e w' => e = .returned (.tuple #[]) ∧ SWK enc k w0 blk off (swapR n dk a b) w' := by
  have mixed := T.mixed; have t0 := T.t0; have a0 := T.a0; have z0 := T.z0; have v0 := T.v0; have t3 := T.t3; have a3 := T.a3; have z3 := T.z3; have v3 := T.v3; have t4 := T.t4; have a4 := T.a4; have z4 := T.z4; have v4 := T.v4; have t23 := T.t23; have a23 := T.a23; have z23 := T.z23; have v23 := T.v23; have t70 := T.t70; have a70 := T.a70; have z70 := T.z70; have v70 := T.v70; have t89 := T.t89; have a89 := T.a89; have z89 := T.z89; have v89 := T.v89; have aE := T.aE; have zE := T.zE; have u23 := run_underlying T.t23
  have F := T.f71
  clear T
  have HR := hide R
  have HW := hide hW
  clear R hW
  go_enter F, Tryz.ntmps98
  go_wp2
  go_loopg [10] n (fun g vi wr => ∃ (i : Nat) (di : Array Tr), vi = .int .i64 i ∧ i ≤ n ∧ n - i ≤ g ∧ di.size = d0.size ∧ Hid (SWK enc k w0 blk off di wr) ∧ Hid (swapR (n - i) di (a + i) (b + i) = swapR n dk a b))
  case atStart => exact ⟨0, dk, by go_num, Nat.zero_le _, Nat.le_refl _, hs, HW, rfl⟩
  case round =>
    obtain ⟨i, di, rfl, hin, hg, hds, HS, HQ⟩ := hrel
    by_cases hlt : i < n
    · have hltz : (i : Int) < (n : Int) := by omega
      obtain ⟨p, hp⟩ : ∃ p, p = a + i := ⟨_, rfl⟩
      obtain ⟨q, hq⟩ : ∃ q, q = b + i := ⟨_, rfl⟩
      have hpz : (a : Int) + (i : Int) = (p : Int) := by omega
      have hqz : (b : Int) + (i : Int) = (q : Int) := by omega
      have hpd : p < di.size := by omega
      have hqd : q < di.size := by omega
      have hp1 : (p : Int) < (d0.size : Int) := by omega
      have hq1 : (q : Int) < (d0.size : Int) := by omega
      have hwp : IntKind.i64.wrap (p : Int) = (p : Int) := by rw [IntKind.wrap_i64]; omega
      have hwq : IntKind.i64.wrap (q : Int) = (q : Int) := by rw [IntKind.wrap_i64]; omega
      have lp := HS.out.ld1 HR.out hds P p hpd
      have lq := HS.out.ld1 HR.out hds P q hqd
      have s1 := HS.out.st1 HR.out hds P p hpd di[q]!
      have s2 := HS.out.st2 HR.out hds P p q hpd hqd di[q]! di[p]!
      have HN := hide (HS.out.swapped HR.out p q hpd hqd)
      have hsP : (enc di[p]!).length = k := HR.out.hk _
      have hsQ : (enc di[q]!).length = k := HR.out.hk _
      obtain ⟨cP, hcP⟩ : ∃ c, c = enc di[p]! := ⟨_, rfl⟩
      obtain ⟨cQ, hcQ⟩ : ∃ c, c = enc di[q]! := ⟨_, rfl⟩
      rw [← hcP] at lp hsP
      rw [← hcQ] at lq hsQ s1
      rw [← hcP, ← hcQ] at s2 HN
      have CC := hide (And.intro hcP hcQ)
      have PQ := hide (And.intro hp hq)
      clear hcP hcQ hp hq
      go_wp2_with fail
      go_big_region_o
      all_goals go_wp2
      go_roundg (n - (i + 1))
      case measure => omega
      case rel => exact ⟨i + 1, swp di p q, by go_num, by omega, Nat.le_refl _, by rw [size_swp]; exact hds, HN, by
        show _ = _
        rw [← HQ.out, show n - i = (n - (i + 1)) + 1 by omega, swapR, PQ.out.1, PQ.out.2]; rfl⟩
    · have hltz : ¬ (i : Int) < (n : Int) := by omega
      obtain rfl : i = n := by omega
      go_wp2
      go_end0
      refine ⟨rfl, ?_⟩
      have := HQ.out
      rw [Nat.sub_self, swapR] at this
      rw [← this]; exact HS.out
end Go.Proofs.YtnngemgfochodaaGreat
namespace Go.Proofs.YtnngemgfochodaaGreat
open Go.RowKit Go.Shelf Go.Sort Go.Mine Go.Mine.B Go.Proofs
variable {P : Program} {k : Nat} {enc : Tr → List Value} {w0 W : World} {blk off : Nat} {d0 dk : Array Tr}
theorem swapR_half : ∀ (n : Nat) {d : Array Tr} {A X M Y B : List Tr} {i a b : Nat}, d.toList = half A X M Y B i → X.length = Y.length → i + n = X.length → a = A.length + i → b = A.length + X.length + M.length + i → (swapR n d a b).toList = half A X M Y B X.length
  | 0, d, A, X, M, Y, B, i, a, b, h, _, hn, _, _ => by rw [swapR, h, show i = X.length by omega]
  | n + 1, d, A, X, M, Y, B, i, a, b, h, hl, hn, ha, hb => by
    rw [swapR]
    exact swapR_half n (i := i + 1) (half_next h hl (by omega) ha hb) hl (by omega) (by omega) (by omega)
theorem swapR_is {n : Nat} {d : Array Tr} {A X M Y B : List Tr} {a b : Nat} (h : d.toList = A ++ X ++ M ++ Y ++ B) (hx : X.length = n) (hy : Y.length = n) (ha : a = A.length) (hb : b = A.length + X.length + M.length) : (swapR n d a b).toList = A ++ Y ++ M ++ X ++ B := by
  rw [swapR_half n (i := 0) (by rw [h, half_zero]) (by omega) (by omega) (by omega) (by omega), half_all _ _ _ _ _ (by omega)]
set_option maxHeartbeats 4000000 in
set_option maxRecDepth 1000000 in
theorem rotate70 (T : StT P k) (R : RowK enc k w0 blk off d0) (hW : SWK enc k w0 blk off dk W) (hs : dk.size = d0.size) {A U V B : List Tr} (hd : dk.toList = A ++ U ++ V ++ B) (a m b cap : Nat) (ha : a = A.length) (hm : m = a + U.length) (hb : b = m + V.length)
    (hU : 0 < U.length) (hV : 0 < V.length) (hsz : d0.size < 4611686018427387904) (fn : Value) :
    Calls P 80 #[.slice (some ⟨blk, off, none⟩) d0.size cap, .int .i64 a, .int .i64 m, .int .i64 b, fn] W fun e w' => e = .returned (.tuple #[]) ∧ ∃ d', SWK enc k w0 blk off d' w' ∧ d'.size = d0.size ∧ d'.toList = A ++ V ++ U ++ B := by
  have HK := hide (fun W di (h : SWK enc k w0 blk off di W) (hs : di.size = d0.size) a b n ha hb => swapRange71 T R h hs a b n cap ha hb hsz fn)
  have e71 : ∀ args w, (callFunc 98 args).run P w = .ok (.enter 98 args) w := enters_of T.f71 (by kernel_rfl) rfl
  have mixed := T.mixed; have t0 := T.t0; have a0 := T.a0; have z0 := T.z0; have v0 := T.v0; have t3 := T.t3; have a3 := T.a3; have z3 := T.z3; have v3 := T.v3; have t4 := T.t4; have a4 := T.a4; have z4 := T.z4; have v4 := T.v4; have t23 := T.t23; have a23 := T.a23; have z23 := T.z23; have v23 := T.v23; have t70 := T.t70; have a70 := T.a70; have z70 := T.z70; have v70 := T.v70; have t89 := T.t89; have a89 := T.a89; have z89 := T.z89; have v89 := T.v89; have aE := T.aE; have zE := T.zE; have u23 := run_underlying T.t23
  have F := T.f70
  have HL := hide (show d0.size = A.length + U.length + V.length + B.length by rw [← hs, ← Array.length_toList, hd]; simp; omega)
  have HW := hide hW
  have HD := hide hd
  clear T hW hd
  have hmz : (m : Int) - (a : Int) = (U.length : Int) := by omega
  have hbz : (b : Int) - (m : Int) = (V.length : Int) := by omega
  have hl : m + V.length ≤ d0.size := by have := HL.out; omega
  generalize hu : U.length = u at *
  generalize hv : V.length = v at *
  have HUV := hide (And.intro hu hv)
  have HA := hide (And.intro ha (And.intro hm hb))
  have hmu : u ≤ m := by omega
  have hma : A.length + u = m := by omega
  have HMA := hide hma
  have hvb : m + v < 4611686018427387904 := by omega
  clear hu hv ha hm hb hma
  go_enter F, Tryz.ntmps80
  go_wp2
  go_loopg [10, 11] (u + v) (fun g vi vj wr => ∃ (i j : Nat) (di : Array Tr) (A' U' V' B' : List Tr), vi = .int .i64 i ∧ vj = .int .i64 j ∧ 0 < i ∧ 0 < j ∧ i ≤ u ∧ j ≤ v ∧ i + j ≤ g ∧ di.size = d0.size ∧ Hid (SWK enc k w0 blk off di wr) ∧ Hid (di.toList = A' ++ U' ++ V' ++ B' ∧ A'.length + i = m ∧ U'.length = i ∧ V'.length = j ∧ A' ++ V' ++ U' ++ B' = A ++ V ++ U ++ B))
  case atStart => exact ⟨u, v, dk, A, U, V, B, by go_num, by go_num, hU, hV, Nat.le_refl _, Nat.le_refl _, Nat.le_refl _, hs, HW, hide ⟨HD.out, HMA.out, HUV.out.1, HUV.out.2, rfl⟩⟩
  case round =>
    obtain ⟨i, j, di, A', U', V', B', rfl, rfl, hi, hj, hiu, hjv, hg, hds, HS, HQ⟩ := hrel
    obtain ⟨s, hsm⟩ : ∃ s, s + i = m := ⟨m - i, by have := HQ.out.2.1; omega⟩
    have hmi : (m : Int) - (i : Int) = (s : Int) := by omega
    have hsw : IntKind.i64.wrap (s : Int) = (s : Int) := by rw [IntKind.wrap_i64]; omega
    have hsa := hide (show s = A'.length by have := HQ.out.2.1; omega)
    by_cases hij : i = j
    · subst hij
      have C := hide (HK.out wr di HS.out hds s m i (by omega) (by omega))
      go_wp2_with fail
      refine C.out.mono ?_
      rintro e w' ⟨rfl, hw'⟩
      have HW' := hide hw'
      clear hw'
      go_wp2
      go_end0
      refine ⟨rfl, _, HW'.out, by rw [size_swapR]; exact hds, ?_⟩
      obtain ⟨q1, q2, q3, q4, q5⟩ := HQ.out
      rw [swapR_is (A := A') (X := U') (M := []) (Y := V') (B := B') (by rw [q1]; simp) q3 q4 hsa.out (by have := hsa.out; simp; omega), ← q5]
      simp
    · by_cases hlt : j < i
      · have hg1 : ((i : Int) > (j : Int)) := by omega
        have hne : (i : Int) ≠ (j : Int) := by omega
        have C := hide (HK.out wr di HS.out hds s m j (by omega) (by omega))
        go_wp2_with fail
        refine C.out.mono ?_
        rintro e w' ⟨rfl, hw'⟩
        have HW' := hide hw'
        clear hw'
        have hij2 : (i : Int) - (j : Int) = ((i - j : Nat) : Int) := by omega
        go_wp2
        go_roundg (i - j + j)
        case measure => omega
        case rel =>
          obtain ⟨q1, q2, q3, q4, q5⟩ := HQ.out
          obtain ⟨X1, X2, rfl, hx⟩ := split_at U' (k := j) (by omega)
          simp only [List.length_append] at q3
          refine ⟨i - j, j, _, A' ++ V', X2, X1, B', by go_num, rfl, by omega, hj, by omega, hjv, Nat.le_refl _, by rw [size_swapR]; exact hds, HW', hide ⟨?_, by simp; omega, by omega, hx, ?_⟩⟩
          · rw [swapR_is (A := A') (X := X1) (M := X2) (Y := V') (B := B') (by rw [q1]; simp) hx q4 hsa.out (by have := hsa.out; omega)]
          · rw [← q5]; simp
      · have hg1 : ¬ ((i : Int) > (j : Int)) := by omega
        have hne : (i : Int) ≠ (j : Int) := by omega
        obtain ⟨t, ht⟩ : ∃ t, t + i = m + j := ⟨m + j - i, by omega⟩
        obtain ⟨t1, ht1⟩ : ∃ t1, t1 = m + j := ⟨_, rfl⟩
        have hmj1 : (m : Int) + (j : Int) = (t1 : Int) := by omega
        have hmj : (t1 : Int) - (i : Int) = (t : Int) := by omega
        have hmj9 : i + t = m + j := by omega
        have HT := hide (And.intro ht hmj9)
        have htw : IntKind.i64.wrap (t : Int) = (t : Int) := by rw [IntKind.wrap_i64]; omega
        have htw1 : IntKind.i64.wrap (t1 : Int) = (t1 : Int) := by rw [IntKind.wrap_i64]; omega
        have C := hide (HK.out wr di HS.out hds s t i (by omega) (by omega))
        have HT2 := hide hsm
        clear ht ht1 hmj9
        go_wp2_with fail
        refine C.out.mono ?_
        rintro e w' ⟨rfl, hw'⟩
        have HW' := hide hw'
        clear hw'
        have hij2 : (j : Int) - (i : Int) = ((j - i : Nat) : Int) := by omega
        go_wp2
        go_roundg (i + (j - i))
        case measure => omega
        case rel =>
          obtain ⟨q1, q2, q3, q4, q5⟩ := HQ.out
          obtain ⟨Y1, Y2, rfl, hy⟩ := split_at V' (k := j - i) (by omega)
          simp only [List.length_append] at q4
          refine ⟨i, j - i, _, A', Y2, Y1, U' ++ B', rfl, by go_num, hi, by omega, hiu, by omega, Nat.le_refl _, by rw [size_swapR]; exact hds, HW', hide ⟨?_, q2, by omega, hy, ?_⟩⟩
          · rw [swapR_is (A := A') (X := U') (M := Y1) (Y := Y2) (B := B') (by rw [q1]; simp) q3 (by omega) hsa.out (by have := hsa.out; have := HT.out; omega)]; simp
          · rw [← q5]; simp
end Go.Proofs.YtnngemgfochodaaGreat
namespace Go.Proofs.YtnngemgfochodaaGreat
open Go.RowKit Go.Shelf Go.Sort Go.Mine Go.Mine.B Go.Proofs
variable {P : Program} {k : Nat} {enc : Tr → List Value} {w0 W : World} {blk off : Nat} {d0 dk : Array Tr}
/-- the order of times, as a number -/
def cmpI (x y : Int) : Int := if x < y then -1 else if y < x then 1 else 0
theorem cmpI_neg {x y : Int} : cmpI x y < 0 ↔ x < y := by
  unfold cmpI
  split
  · omega
  · split <;> omega
def cfT (x y : Tr) : Int := cmpI x.at_ y.at_
theorem wrap64 {n : Nat} (h : n < 9223372036854775808) : IntKind.i64.wrap (n : Int) = (n : Int) := by rw [IntKind.wrap_i64]; omega
/-- two rows merged where they lay -/
def Merged (enc : Tr → List Value) (k : Nat) (w0 : World) (blk off : Nat) (d0 : Array Tr) (A L R B : List Tr) (w' : World) : Prop := ∃ d' M, SWK enc k w0 blk off d' w' ∧ d'.size = d0.size ∧ d'.toList = A ++ M ++ B ∧ Mrg L R M
set_option maxHeartbeats 8000000 in
set_option maxRecDepth 1000000 in
theorem symLow69 {g : Nat} {cb : Array Value} (T : StT P k) (R : RowK enc k w0 blk off d0) (hC : CmpLays P g cb enc k cfT blk off d0.size w0) (eg : ∀ args w, (callFunc g args).run P w = .ok (.enter g args) w) (hW : SWK enc k w0 blk off dk W) (hs : dk.size = d0.size) {A V B : List Tr} {x : Tr} (hd : dk.toList = A ++ [x] ++ V ++ B) (a m b cap : Nat) (ha : a = A.length) (hm : m = a + 1) (hb : b = m + V.length)
    (hV : 0 < V.length) (hsV : V.Pairwise lt2) (hno : NoLt [x] V) (hsz : d0.size < 4611686018427387904) :
    Calls P 63 #[.slice (some ⟨blk, off, none⟩) d0.size cap, .int .i64 a, .int .i64 m, .int .i64 b, .func (.func g) #[] cb] W fun e w' => e = .returned (.tuple #[]) ∧ Merged enc k w0 blk off d0 A [x] V B w' := by
  have mixed := T.mixed; have t0 := T.t0; have a0 := T.a0; have z0 := T.z0; have v0 := T.v0; have t3 := T.t3; have a3 := T.a3; have z3 := T.z3; have v3 := T.v3; have t4 := T.t4; have a4 := T.a4; have z4 := T.z4; have v4 := T.v4; have t23 := T.t23; have a23 := T.a23; have z23 := T.z23; have v23 := T.v23; have t70 := T.t70; have a70 := T.a70; have z70 := T.z70; have v70 := T.v70; have t89 := T.t89; have a89 := T.a89; have z89 := T.z89; have v89 := T.v89; have aE := T.aE; have zE := T.zE; have u23 := run_underlying T.t23
  have F := T.f69
  have hdl : d0.size = A.length + 1 + V.length + B.length := by rw [← hs, ← Array.length_toList, hd]; simp; omega
  have hxa := get_arr (A := A) (B := V ++ B) (i := a) (x := x) (by rw [hd]; simp) ha
  have had : a < dk.size := by omega
  have hbd : b ≤ d0.size := by omega
  have hab : a < m := by omega
  have hmb : m < b := by omega
  have HW := hide hW
  have HCC := hide hC
  have HR := hide R
  have HX := hide hxa
  have HM := hide (And.intro hd (And.intro ha (And.intro hm hb)))
  have hmz : (m : Int) - (a : Int) = 1 := by omega
  have HV := hide (And.intro hsV hno)
  have az1 : (a : Int) < (d0.size : Int) := by omega
  clear T R hC hW hd hdl hxa ha hm hb hsV hno
  go_enter F, Tryz.ntmps63
  go_wp2
  go_loopg [10, 11, 12] (b - m) (fun g vi vj _ wr => ∃ (i j : Nat), vi = .int .i64 i ∧ vj = .int .i64 j ∧ m ≤ i ∧ i ≤ j ∧ j ≤ b ∧ j - i ≤ g ∧ Hid (SWK enc k w0 blk off dk wr) ∧ Hid ((i = m ∨ dk[i - 1]!.at_ < x.at_) ∧ (j = b ∨ ¬ dk[j]!.at_ < x.at_)))
  case atStart => exact ⟨m, b, rfl, rfl, Nat.le_refl _, by omega, Nat.le_refl _, Nat.le_refl _, HW, hide ⟨.inl rfl, .inl rfl⟩⟩
  case round =>
    obtain ⟨i, j, rfl, rfl, hmi, hij, hjb, hgm, HS, HQ⟩ := hrel
    by_cases hlt : i < j
    · have hltz : (i : Int) < (j : Int) := by omega
      obtain ⟨h, hh⟩ : ∃ h, h = (i + j) / 2 := ⟨_, rfl⟩
      have hhz : ((i : Int) + (j : Int)) / 2 = (h : Int) := by omega
      have hih : i ≤ h := by omega
      have hhj : h < j := by omega
      have hhd : h < dk.size := by omega
      have h1 : (h : Int) < (d0.size : Int) := by omega
      have hwp := wrap64 (n := h) (by omega)
      have lh := HS.out.ld HR.out hs P h hhd
      have la := HS.out.ld HR.out hs P a had
      have hcg := fun n os => HS.out.cmp HCC.out hs dk[h]! dk[a]! n os
      have HG := hide (fun n os => HS.out.grown n os)
      rw [HX.out] at la hcg
      generalize hy : dk[h]! = y at lh hcg
      have HY := hide hy
      have hcf : cfT y x < 0 ↔ y.at_ < x.at_ := cmpI_neg
      generalize hv : cfT y x = v at hcg hcf
      have HCF := hide hcf
      clear hy hv hcf hh
      by_cases hlv : v < 0
      · go_wp2_with fail
        go_quiet_grown (first | (go_at_fn g; refine Calls.grown_of (hcg _ _)))
        go_wp2
        go_roundg (j - (h + 1))
        case measure => omega
        case rel => exact ⟨h + 1, j, by go_num, rfl, by omega, by omega, hjb, Nat.le_refl _, HG.out _ _, hide ⟨.inr (by rw [Nat.add_sub_cancel, HY.out]; exact HCF.out.1 hlv), HQ.out.2⟩⟩
      · go_wp2_with fail
        go_quiet_grown (first | (go_at_fn g; refine Calls.grown_of (hcg _ _)))
        go_wp2
        go_roundg (h - i)
        case measure => omega
        case rel => exact ⟨i, h, rfl, rfl, hmi, hih, by omega, Nat.le_refl _, HG.out _ _, hide ⟨HQ.out.1, .inr (by rw [HY.out]; have := HCF.out; omega)⟩⟩
    · have hltz : ¬ (i : Int) < (j : Int) := by omega
      obtain rfl : i = j := by omega
      obtain ⟨R1, R2, hR, hi2, hmrg⟩ := low_cut HM.out.1 HM.out.2.1 HM.out.2.2.1 HM.out.2.2.2 hmi hjb HQ.out.1 HQ.out.2 HV.out.1 HV.out.2
      have HE := hide (And.intro hR (And.intro hi2 hmrg))
      clear hR hi2 hmrg
      go_wp2
      go_loopg [13] (i - a) (fun g vq wr2 => ∃ (q : Nat) (dq : Array Tr) (R3 R4 : List Tr), vq = .int .i64 q ∧ a ≤ q ∧ q + 1 ≤ i ∧ i - 1 - q ≤ g ∧ dq.size = d0.size ∧ Hid (SWK enc k w0 blk off dq wr2) ∧ Hid (R1 = R3 ++ R4 ∧ dq.toList = A ++ R3 ++ x :: R4 ++ (R2 ++ B) ∧ q = a + R3.length ∧ i = q + 1 + R4.length))
      case atStart => exact ⟨a, dk, [], R1, rfl, Nat.le_refl _, by omega, by omega, hs, HS, hide ⟨rfl, by have := HM.out.1; rw [HE.out.1] at this; rw [this]; simp, rfl, by have := HE.out.2.1; have := HM.out.2.2.1; omega⟩⟩
      case round =>
        obtain ⟨q, dq, R3, R4, rfl, haq, hqi, hgm2, hds, HS2, HQ2⟩ := hrel
        have hqz : (i : Int) - 1 = ((i - 1 : Nat) : Int) := by omega
        by_cases hlt2 : q < i - 1
        · have hltz2 : (q : Int) < (i : Int) - 1 := by omega
          obtain ⟨p, hp⟩ : ∃ p, p = q + 1 := ⟨_, rfl⟩
          have hpz : (q : Int) + 1 = (p : Int) := by omega
          have hpd : p < dq.size := by omega
          have hqd : q < dq.size := by omega
          have hp1 : (p : Int) < (d0.size : Int) := by omega
          have hq1 : (q : Int) < (d0.size : Int) := by omega
          have hwp := wrap64 (n := p) (by omega)
          have hwi : IntKind.i64.wrap ((i : Int) - 1) = (i : Int) - 1 := by rw [IntKind.wrap_i64]; omega
          have lp := HS2.out.ld1 HR.out hds P p hpd
          have lq := HS2.out.ld1 HR.out hds P q hqd
          have s1 := HS2.out.st1 HR.out hds P q hqd dq[p]!
          have s2 := HS2.out.st2 HR.out hds P q p hqd hpd dq[p]! dq[q]!
          have HN := hide (HS2.out.swapped HR.out q p hqd hpd)
          have hsP : (enc dq[p]!).length = k := HR.out.hk _
          have hsQ : (enc dq[q]!).length = k := HR.out.hk _
          obtain ⟨cP, hcP⟩ : ∃ c, c = enc dq[p]! := ⟨_, rfl⟩
          obtain ⟨cQ, hcQ⟩ : ∃ c, c = enc dq[q]! := ⟨_, rfl⟩
          rw [← hcP] at lp hsP s1
          rw [← hcQ] at lq hsQ
          rw [← hcP, ← hcQ] at s2 HN
          have CC := hide (And.intro hcP hcQ)
          have PQ := hide hp
          clear hcP hcQ hp hqz
          go_wp2_with fail
          go_big_region_o
          all_goals go_wp2
          go_roundg (i - 1 - p)
          case measure => omega
          case rel =>
            have hpq := PQ.out
            obtain ⟨r1, r2, r3, r4⟩ := HQ2.out
            obtain ⟨y, R5, rfl⟩ : ∃ y R5, R4 = y :: R5 := by
              rcases R4 with _ | ⟨y, R5⟩
              · simp at r4; omega
              · exact ⟨y, R5, rfl⟩
            refine ⟨p, swp dq q p, R3 ++ [y], R5, by go_num, by omega, by omega, Nat.le_refl _, by rw [size_swp]; exact hds, HN, hide ⟨by rw [r1]; simp, ?_, by simp; omega, by simp at r4; omega⟩⟩
            have := lift_next (d := dq) (A := A ++ R3) (B := R5 ++ (R2 ++ B)) (x := x) (y := y) (k := q) (by rw [r2]; simp) (by have := HM.out.2.1; simp; omega)
            rw [hpq, this]; simp
        · have hltz2 : ¬ (q : Int) < (i : Int) - 1 := by omega
          have hwi : IntKind.i64.wrap ((i : Int) - 1) = (i : Int) - 1 := by rw [IntKind.wrap_i64]; omega
          clear hqz
          go_wp2
          (try simp only [Exit.inBlock, Exit.then])
          refine bodyPost_ret (results_none rfl _ _ _) rfl ?_
          obtain ⟨r1, r2, r3, r4⟩ := HQ2.out
          obtain rfl : R4 = [] := List.length_eq_zero_iff.1 (by omega)
          refine ⟨rfl, dq, _, HS2.out, hds, ?_, HE.out.2.2⟩
          rw [r2, r1]; simp
end Go.Proofs.YtnngemgfochodaaGreat
namespace Go.Proofs.YtnngemgfochodaaGreat
open Go.RowKit Go.Shelf Go.Sort Go.Mine Go.Mine.B Go.Proofs
variable {P : Program} {k : Nat} {enc : Tr → List Value} {w0 W : World} {blk off : Nat} {d0 dk : Array Tr}
set_option maxHeartbeats 8000000 in
set_option maxRecDepth 1000000 in
theorem symHigh69 {g : Nat} {cb : Array Value} (T : StT P k) (R : RowK enc k w0 blk off d0) (hC : CmpLays P g cb enc k cfT blk off d0.size w0) (eg : ∀ args w, (callFunc g args).run P w = .ok (.enter g args) w) (hW : SWK enc k w0 blk off dk W) (hs : dk.size = d0.size) {A U B : List Tr} {x : Tr} (hd : dk.toList = A ++ U ++ [x] ++ B) (a m b cap : Nat) (ha : a = A.length) (hm : m = a + U.length) (hb : b = m + 1)
    (hU : 1 < U.length) (hsU : U.Pairwise lt2) (hno : NoLt U [x]) (hsz : d0.size < 4611686018427387904) :
    Calls P 63 #[.slice (some ⟨blk, off, none⟩) d0.size cap, .int .i64 a, .int .i64 m, .int .i64 b, .func (.func g) #[] cb] W fun e w' => e = .returned (.tuple #[]) ∧ Merged enc k w0 blk off d0 A U [x] B w' := by
  have mixed := T.mixed; have t0 := T.t0; have a0 := T.a0; have z0 := T.z0; have v0 := T.v0; have t3 := T.t3; have a3 := T.a3; have z3 := T.z3; have v3 := T.v3; have t4 := T.t4; have a4 := T.a4; have z4 := T.z4; have v4 := T.v4; have t23 := T.t23; have a23 := T.a23; have z23 := T.z23; have v23 := T.v23; have t70 := T.t70; have a70 := T.a70; have z70 := T.z70; have v70 := T.v70; have t89 := T.t89; have a89 := T.a89; have z89 := T.z89; have v89 := T.v89; have aE := T.aE; have zE := T.zE; have u23 := run_underlying T.t23
  have F := T.f69
  have hdl : d0.size = A.length + U.length + 1 + B.length := by rw [← hs, ← Array.length_toList, hd]; simp; omega
  have hxa := get_arr (A := A ++ U) (B := B) (i := m) (x := x) (by rw [hd]; simp) (by simp; omega)
  have hmd : m < dk.size := by omega
  have hbd : b ≤ d0.size := by omega
  have ham : a + 1 < m := by omega
  have hmb : m < b := by omega
  have HW := hide hW
  have HCC := hide hC
  have HR := hide R
  have HX := hide hxa
  have HM := hide (And.intro hd (And.intro ha (And.intro hm hb)))
  have hmz : (b : Int) - (m : Int) = 1 := by omega
  have hmz0 : ((m : Int) - (a : Int) == 1) = false := by simp; omega
  have HV := hide (And.intro hsU hno)
  have az1 : (m : Int) < (d0.size : Int) := by omega
  clear T R hC hW hd hdl hxa ha hm hb hsU hno
  go_enter F, Tryz.ntmps63
  go_wp2
  go_loopg [14, 15, 16] (m - a) (fun g vi vj _ wr => ∃ (i j : Nat), vi = .int .i64 i ∧ vj = .int .i64 j ∧ a ≤ i ∧ i ≤ j ∧ j ≤ m ∧ j - i ≤ g ∧ Hid (SWK enc k w0 blk off dk wr) ∧ Hid ((i = a ∨ ¬ x.at_ < dk[i - 1]!.at_) ∧ (j = m ∨ x.at_ < dk[j]!.at_)))
  case atStart => exact ⟨a, m, rfl, rfl, Nat.le_refl _, by omega, Nat.le_refl _, Nat.le_refl _, HW, hide ⟨.inl rfl, .inl rfl⟩⟩
  case round =>
    obtain ⟨i, j, rfl, rfl, hmi, hij, hjb, hgm, HS, HQ⟩ := hrel
    by_cases hlt : i < j
    · have hltz : (i : Int) < (j : Int) := by omega
      obtain ⟨h, hh⟩ : ∃ h, h = (i + j) / 2 := ⟨_, rfl⟩
      have hhz : ((i : Int) + (j : Int)) / 2 = (h : Int) := by omega
      have hih : i ≤ h := by omega
      have hhj : h < j := by omega
      have hhd : h < dk.size := by omega
      have h1 : (h : Int) < (d0.size : Int) := by omega
      have hwp := wrap64 (n := h) (by omega)
      have lh := HS.out.ld HR.out hs P h hhd
      have la := HS.out.ld HR.out hs P m hmd
      have hcg := fun n os => HS.out.cmp HCC.out hs dk[m]! dk[h]! n os
      have HG := hide (fun n os => HS.out.grown n os)
      rw [HX.out] at la hcg
      generalize hy : dk[h]! = y at lh hcg
      have HY := hide hy
      have hcf : cfT x y < 0 ↔ x.at_ < y.at_ := cmpI_neg
      generalize hv : cfT x y = v at hcg hcf
      have HCF := hide hcf
      clear hy hv hcf hh
      by_cases hlv : v < 0
      · go_wp2_with fail
        go_quiet_grown (first | (go_at_fn g; refine Calls.grown_of (hcg _ _)))
        go_wp2
        go_roundg (h - i)
        case measure => omega
        case rel => exact ⟨i, h, rfl, rfl, hmi, hih, by omega, Nat.le_refl _, HG.out _ _, hide ⟨HQ.out.1, .inr (by rw [HY.out]; exact HCF.out.1 hlv)⟩⟩
      · have gv : decide (v < 0) = false := decide_eq_false hlv
        have hlv2 := hide hlv
        clear hlv
        go_wp2_with fail
        go_quiet_grown (first | (go_at_fn g; refine Calls.grown_of (hcg _ _)))
        go_wp2
        go_roundg (j - (h + 1))
        case measure => omega
        case rel => exact ⟨h + 1, j, by go_num, rfl, by omega, by omega, hjb, Nat.le_refl _, HG.out _ _, hide ⟨.inr (by rw [Nat.add_sub_cancel, HY.out]; have := HCF.out; have := hlv2.out; omega), HQ.out.2⟩⟩
    · have hltz : ¬ (i : Int) < (j : Int) := by omega
      obtain rfl : i = j := by omega
      obtain ⟨U1, U2, hR, hi2, hmrg⟩ := high_cut HM.out.1 HM.out.2.1 HM.out.2.2.1 hmi hjb HQ.out.1 HQ.out.2 HV.out.1 HV.out.2
      have HE := hide (And.intro hR (And.intro hi2 hmrg))
      clear hR hi2 hmrg
      go_wp2
      go_loopg [17] (m - i) (fun g vq wr2 => ∃ (q : Nat) (dq : Array Tr) (U3 U4 : List Tr), vq = .int .i64 q ∧ i ≤ q ∧ q ≤ m ∧ q - i ≤ g ∧ dq.size = d0.size ∧ Hid (SWK enc k w0 blk off dq wr2) ∧ Hid (U2 = U3 ++ U4 ∧ dq.toList = A ++ U1 ++ U3 ++ x :: U4 ++ B ∧ q = i + U3.length))
      case atStart => exact ⟨m, dk, U2, [], rfl, hjb, Nat.le_refl _, Nat.le_refl _, hs, HS, hide ⟨by simp, by have := HM.out.1; rw [HE.out.1] at this; rw [this]; simp, by have := HE.out.2.1; have := HM.out.2.2.1; rw [HE.out.1] at this; simp at this; omega⟩⟩
      case round =>
        obtain ⟨q, dq, U3, U4, rfl, hiq, hqm, hgm2, hds, HS2, HQ2⟩ := hrel
        by_cases hlt2 : i < q
        · have hltz2 : (q : Int) > (i : Int) := by omega
          obtain ⟨p, hp⟩ : ∃ p, q = p + 1 := ⟨q - 1, by omega⟩
          have hpz : (q : Int) - 1 = (p : Int) := by omega
          have hpd : p < dq.size := by omega
          have hqd : q < dq.size := by omega
          have hp1 : (p : Int) < (d0.size : Int) := by omega
          have hq1 : (q : Int) < (d0.size : Int) := by omega
          have hwp := wrap64 (n := p) (by omega)
          have lp := HS2.out.ld1 HR.out hds P p hpd
          have lq := HS2.out.ld1 HR.out hds P q hqd
          have s1 := HS2.out.st1 HR.out hds P q hqd dq[p]!
          have s2 := HS2.out.st2 HR.out hds P q p hqd hpd dq[p]! dq[q]!
          have HN := hide (HS2.out.swapped HR.out q p hqd hpd)
          have hsP : (enc dq[p]!).length = k := HR.out.hk _
          have hsQ : (enc dq[q]!).length = k := HR.out.hk _
          obtain ⟨cP, hcP⟩ : ∃ c, c = enc dq[p]! := ⟨_, rfl⟩
          obtain ⟨cQ, hcQ⟩ : ∃ c, c = enc dq[q]! := ⟨_, rfl⟩
          rw [← hcP] at lp hsP s1
          rw [← hcQ] at lq hsQ
          rw [← hcP, ← hcQ] at s2 HN
          have CC := hide (And.intro hcP hcQ)
          have hpi : p - i < q - i := by omega
          have hpm : p ≤ m := by omega
          have hip : i ≤ p := by omega
          have PQ := hide hp
          clear hcP hcQ hp
          go_wp2_with fail
          go_big_region_o
          all_goals go_wp2
          go_roundg (p - i)
          case measure => omega
          case rel =>
            have hpq := PQ.out
            obtain ⟨r1, r2, r3⟩ := HQ2.out
            obtain ⟨U5, y, rfl⟩ : ∃ U5 y, U3 = U5 ++ [y] := by
              rcases hl : U3.getLast? with _ | y
              · rw [List.getLast?_eq_none_iff.1 hl] at r3; simp at r3; omega
              · obtain ⟨U5, rfl⟩ := List.getLast?_eq_some_iff.1 hl
                exact ⟨U5, y, rfl⟩
            refine ⟨p, swp dq q p, U5, y :: U4, by go_num, hip, hpm, Nat.le_refl _, by rw [size_swp]; exact hds, HN, hide ⟨by rw [r1]; simp, ?_, by simp at r3; omega⟩⟩
            have := sink_next (d := dq) (A := A ++ U1 ++ U5) (B := U4 ++ B) (x := y) (y := x) (k := q) (by rw [r2]; simp) (by have := HM.out.2.1; have := HE.out.2.1; simp at r3 ⊢; omega)
            rw [show q - 1 = p by omega] at this
            rw [this]; simp
        · have hltz2 : ¬ (q : Int) > (i : Int) := by omega
          go_wp2
          (try simp only [Exit.inBlock, Exit.then])
          refine bodyPost_ret (results_none rfl _ _ _) rfl ?_
          obtain ⟨r1, r2, r3⟩ := HQ2.out
          obtain rfl : U3 = [] := List.length_eq_zero_iff.1 (by omega)
          refine ⟨rfl, dq, _, HS2.out, hds, ?_, HE.out.2.2⟩
          rw [r2, r1]; simp
end Go.Proofs.YtnngemgfochodaaGreat
namespace Go.Proofs.YtnngemgfochodaaGreat
open Go.RowKit Go.Shelf Go.Sort Go.Mine Go.Mine.B Go.Proofs
variable {P : Program} {k : Nat} {enc : Tr → List Value} {w0 W : World} {blk off : Nat} {d0 dk : Array Tr}
theorem NoLt.sub {L R L' R' : List Tr} (h : NoLt L R) (hl : ∀ x ∈ L', x ∈ L) (hr : ∀ x ∈ R', x ∈ R) : NoLt L' R' := fun x hx y hy => h x (hl x hx) y (hr y hy)
theorem mrg_triv {L R : List Tr} (hL : L.Pairwise lt2) (hR : R.Pairwise lt2) (h : L.length = 0 ∨ R.length = 0) : Mrg L R (L ++ R) := by
  rcases h with h | h
  · obtain rfl := List.length_eq_zero_iff.1 h; exact mrg_nilL hR
  · obtain rfl := List.length_eq_zero_iff.1 h; rw [List.append_nil]; exact mrg_nilR hL
/-- the cut: where the binary search ended -/
structure Cut (A B L R : List Tr) (a m b mid s e : Nat) (L1 L2 R1 R2 : List Tr) : Prop where
  hL : L = L1 ++ L2
  hR : R = R1 ++ R2
  ha : a = A.length
  hs : s = a + L1.length
  hm : m = s + L2.length
  hmid : mid = s + R1.length
  he : e = m + R1.length
  hb : b = e + R2.length
  c1 : ∀ u v, L1.getLast? = some u → R2.head? = some v → u.at_ ≤ v.at_
  c2 : ∀ u v, R1.getLast? = some u → L2.head? = some v → u.at_ < v.at_
  sL : (L1 ++ L2).Pairwise lt2
  sR : (R1 ++ R2).Pairwise lt2
  no : NoLt (L1 ++ L2) (R1 ++ R2)
theorem Cut.end_ {A B L R : List Tr} {a m b mid s e : Nat} {L1 L2 R1 R2 M1 M2 : List Tr} (h : Cut A B L R a m b mid s e L1 L2 R1 R2) {w' : World} {d' : Array Tr} (hw : SWK enc k w0 blk off d' w') (hs : d'.size = d0.size) (hd : d'.toList = A ++ M1 ++ M2 ++ B) (h1 : Mrg L1 R1 M1) (h2 : Mrg L2 R2 M2) :
    Merged enc k w0 blk off d0 A L R B w' := by
  refine ⟨d', M1 ++ M2, hw, hs, by rw [hd]; simp, ?_⟩
  rw [h.hL, h.hR]
  exact mrg_sym h.sL h.sR h.no h.c1 h.c2 h1 h2
/-- what is known before the halves are merged -/
def Turned (enc : Tr → List Value) (k : Nat) (w0 : World) (blk off : Nat) (d0 : Array Tr) (D : List Tr) (w' : World) : Prop := ∃ d', SWK enc k w0 blk off d' w' ∧ d'.size = d0.size ∧ d'.toList = D
/-- the contract, for shorter rows -/
def SymIH (P : Program) (enc : Tr → List Value) (k : Nat) (w0 : World) (blk off : Nat) (d0 : Array Tr) (cap : Nat) (fn : Value) (N : Nat) : Prop :=
  ∀ (W : World) (dk : Array Tr) (A U V B : List Tr) (a m b : Nat), SWK enc k w0 blk off dk W → dk.size = d0.size → dk.toList = A ++ U ++ V ++ B → a = A.length → m = a + U.length → b = m + V.length → 0 < U.length → 0 < V.length → U.Pairwise lt2 → V.Pairwise lt2 → NoLt U V → b ≤ a + N →
    Calls P 63 #[.slice (some ⟨blk, off, none⟩) d0.size cap, .int .i64 a, .int .i64 m, .int .i64 b, fn] W fun e w' => e = .returned (.tuple #[]) ∧ Merged enc k w0 blk off d0 A U V B w'
section
variable {A B L R : List Tr} {a m b mid s e cap N : Nat} {L1 L2 R1 R2 : List Tr} {fn : Value}
theorem Cut.rot (h : Cut A B L R a m b mid s e L1 L2 R1 R2) (T : StT P k) (hR : RowK enc k w0 blk off d0) (hsz : d0.size < 4611686018427387904) (hW : Turned enc k w0 blk off d0 (A ++ L ++ R ++ B) W) (h2 : 0 < L2.length) (h1 : 0 < R1.length) :
    Calls P 80 #[.slice (some ⟨blk, off, none⟩) d0.size cap, .int .i64 s, .int .i64 m, .int .i64 e, fn] W fun e w' => e = .returned (.tuple #[]) ∧ Turned enc k w0 blk off d0 (A ++ L1 ++ R1 ++ (L2 ++ R2 ++ B)) w' := by
  obtain ⟨dk, hW, hs, hd⟩ := hW
  refine (rotate70 T hR hW hs (A := A ++ L1) (U := L2) (V := R1) (B := R2 ++ B) (by rw [hd, h.hL, h.hR]; simp) s m e cap (by rw [h.hs, h.ha]; simp) h.hm h.he h2 h1 hsz fn).mono ?_
  rintro e w' ⟨he, d', hw, hs', hd'⟩
  exact ⟨he, d', hw, hs', by rw [hd']; simp⟩
theorem Cut.norot (h : Cut A B L R a m b mid s e L1 L2 R1 R2) (hW : Turned enc k w0 blk off d0 (A ++ L ++ R ++ B) W) (h0 : L2.length = 0 ∨ R1.length = 0) : Turned enc k w0 blk off d0 (A ++ L1 ++ R1 ++ (L2 ++ R2 ++ B)) W := by
  obtain ⟨dk, hW, hs, hd⟩ := hW
  refine ⟨dk, hW, hs, ?_⟩
  rw [hd, h.hL, h.hR]
  rcases h0 with h0 | h0
  · obtain rfl := List.length_eq_zero_iff.1 h0; simp
  · obtain rfl := List.length_eq_zero_iff.1 h0; simp
/-- the first half is merged -/
def Half1 (enc : Tr → List Value) (k : Nat) (w0 : World) (blk off : Nat) (d0 : Array Tr) (A B L1 L2 R1 R2 : List Tr) (w' : World) : Prop := ∃ M1, Mrg L1 R1 M1 ∧ Turned enc k w0 blk off d0 (A ++ M1 ++ L2 ++ R2 ++ B) w'
theorem Cut.low (h : Cut A B L R a m b mid s e L1 L2 R1 R2) (IH : SymIH P enc k w0 blk off d0 cap fn N) (hN : mid ≤ a + N) (hW : Turned enc k w0 blk off d0 (A ++ L1 ++ R1 ++ (L2 ++ R2 ++ B)) W) (h2 : 0 < L1.length) (h1 : 0 < R1.length) :
    Calls P 63 #[.slice (some ⟨blk, off, none⟩) d0.size cap, .int .i64 a, .int .i64 s, .int .i64 mid, fn] W fun e w' => e = .returned (.tuple #[]) ∧ Half1 enc k w0 blk off d0 A B L1 L2 R1 R2 w' := by
  obtain ⟨dk, hW, hs, hd⟩ := hW
  obtain ⟨l1, l2, _⟩ := List.pairwise_append.1 h.sL
  obtain ⟨r1, r2, _⟩ := List.pairwise_append.1 h.sR
  refine (IH W dk A L1 R1 (L2 ++ R2 ++ B) a s mid hW hs hd h.ha h.hs h.hmid h2 h1 l1 r1 (NoLt.sub h.no (fun x hx => by simp [hx]) (fun x hx => by simp [hx])) hN).mono ?_
  rintro e w' ⟨he, d', M, hw, hs', hd', hM⟩
  exact ⟨he, M, hM, d', hw, hs', by rw [hd']; simp⟩
theorem Cut.nolow (h : Cut A B L R a m b mid s e L1 L2 R1 R2) (hW : Turned enc k w0 blk off d0 (A ++ L1 ++ R1 ++ (L2 ++ R2 ++ B)) W) (h0 : L1.length = 0 ∨ R1.length = 0) : Half1 enc k w0 blk off d0 A B L1 L2 R1 R2 W := by
  obtain ⟨dk, hW, hs, hd⟩ := hW
  obtain ⟨l1, l2, _⟩ := List.pairwise_append.1 h.sL
  obtain ⟨r1, r2, _⟩ := List.pairwise_append.1 h.sR
  exact ⟨_, mrg_triv l1 r1 h0, dk, hW, hs, by rw [hd]; simp⟩
theorem Cut.high (h : Cut A B L R a m b mid s e L1 L2 R1 R2) (IH : SymIH P enc k w0 blk off d0 cap fn N) (hN : b ≤ mid + N) (hW : Half1 enc k w0 blk off d0 A B L1 L2 R1 R2 W) (h2 : 0 < L2.length) (h1 : 0 < R2.length) :
    Calls P 63 #[.slice (some ⟨blk, off, none⟩) d0.size cap, .int .i64 mid, .int .i64 e, .int .i64 b, fn] W fun e w' => e = .returned (.tuple #[]) ∧ Merged enc k w0 blk off d0 A L R B w' := by
  obtain ⟨M1, hM1, dk, hW, hs, hd⟩ := hW
  obtain ⟨l1, l2, _⟩ := List.pairwise_append.1 h.sL
  obtain ⟨r1, r2, _⟩ := List.pairwise_append.1 h.sR
  have hl := hM1.1.length_eq
  simp at hl
  refine (IH W dk (A ++ M1) L2 R2 B mid e b hW hs hd (by have := h.ha; have := h.hs; have := h.hmid; simp; omega) (by have := h.hm; have := h.hmid; have := h.he; omega) h.hb h2 h1 l2 r2 (NoLt.sub h.no (fun x hx => by simp [hx]) (fun x hx => by simp [hx])) hN).mono ?_
  rintro e w' ⟨he, d', M, hw, hs', hd', hM⟩
  exact ⟨he, h.end_ hw hs' (by rw [hd']) hM1 hM⟩
theorem Cut.nohigh (h : Cut A B L R a m b mid s e L1 L2 R1 R2) (hW : Half1 enc k w0 blk off d0 A B L1 L2 R1 R2 W) (h0 : L2.length = 0 ∨ R2.length = 0) : Merged enc k w0 blk off d0 A L R B W := by
  obtain ⟨M1, hM1, dk, hW, hs, hd⟩ := hW
  obtain ⟨l1, l2, _⟩ := List.pairwise_append.1 h.sL
  obtain ⟨r1, r2, _⟩ := List.pairwise_append.1 h.sR
  exact h.end_ hW hs (by rw [hd]; simp) hM1 (mrg_triv l2 r2 h0)
end
end Go.Proofs.YtnngemgfochodaaGreat
namespace Go.Proofs.YtnngemgfochodaaGreat
open Go.RowKit Go.Shelf Go.Sort Go.Mine Go.Mine.B Go.Proofs
variable {P : Program} {k : Nat} {enc : Tr → List Value} {w0 W : World} {blk off : Nat} {d0 dk : Array Tr}
set_option maxHeartbeats 16000000 in
set_option maxRecDepth 1000000 in
theorem symGen69 {g : Nat} {cb : Array Value} (T : StT P k) (R : RowK enc k w0 blk off d0) (hC : CmpLays P g cb enc k cfT blk off d0.size w0) (eg : ∀ args w, (callFunc g args).run P w = .ok (.enter g args) w) (hW : SWK enc k w0 blk off dk W) (hs : dk.size = d0.size) {A U V B : List Tr} (hd : dk.toList = A ++ U ++ V ++ B) (a m b cap : Nat) (ha : a = A.length) (hm : m = a + U.length) (hb : b = m + V.length)
    (hU : 1 < U.length) (hV : 1 < V.length) (hsU : U.Pairwise lt2) (hsV : V.Pairwise lt2) (hno : NoLt U V) (hsz : d0.size < 4611686018427387904) (N : Nat) (IH : SymIH P enc k w0 blk off d0 cap (.func (.func g) #[] cb) N) (hN : b ≤ a + N + 1) :
    Calls P 63 #[.slice (some ⟨blk, off, none⟩) d0.size cap, .int .i64 a, .int .i64 m, .int .i64 b, .func (.func g) #[] cb] W fun e w' => e = .returned (.tuple #[]) ∧ Merged enc k w0 blk off d0 A U V B w' := by
  have mixed := T.mixed; have t0 := T.t0; have a0 := T.a0; have z0 := T.z0; have v0 := T.v0; have t3 := T.t3; have a3 := T.a3; have z3 := T.z3; have v3 := T.v3; have t4 := T.t4; have a4 := T.a4; have z4 := T.z4; have v4 := T.v4; have t23 := T.t23; have a23 := T.a23; have z23 := T.z23; have v23 := T.v23; have t70 := T.t70; have a70 := T.a70; have z70 := T.z70; have v70 := T.v70; have t89 := T.t89; have a89 := T.a89; have z89 := T.z89; have v89 := T.v89; have aE := T.aE; have zE := T.zE; have u23 := run_underlying T.t23
  have F := T.f69
  have e69 : ∀ args w, (callFunc 63 args).run P w = .ok (.enter 63 args) w := enters_of T.f69 (by kernel_rfl) rfl
  have e70 : ∀ args w, (callFunc 80 args).run P w = .ok (.enter 80 args) w := enters_of T.f70 (by kernel_rfl) rfl
  have hdl : d0.size = A.length + U.length + V.length + B.length := by rw [← hs, ← Array.length_toList, hd]; simp; omega
  have hbd : b ≤ d0.size := by omega
  have ham : a + 1 < m := by omega
  have hmb : m + 1 < b := by omega
  have HW := hide hW
  have HCC := hide hC
  have HR := hide R
  have HT := hide T
  have HIH := hide IH
  have HM := hide (And.intro hd (And.intro ha (And.intro hm hb)))
  have hmz : ((b : Int) - (m : Int) == 1) = false := by simp; omega
  have hmz0 : ((m : Int) - (a : Int) == 1) = false := by simp; omega
  have HV := hide (And.intro hsU (And.intro hsV hno))
  obtain ⟨mid, hmid⟩ : ∃ mid, mid = (a + b) / 2 := ⟨_, rfl⟩
  have hmidz : ((a : Int) + (b : Int)) / 2 = (mid : Int) := by omega
  have hmidw := wrap64 (n := mid) (by omega)
  have HMID := hide hmid
  have hmid1 : a + 1 < mid := by omega
  have hmid2 : mid + 1 < b := by omega
  have hN1 : mid ≤ a + N := by omega
  have hN2 : b ≤ mid + N := by omega
  obtain ⟨n, hn⟩ : ∃ n, n = mid + m := ⟨_, rfl⟩
  have hnz : (mid : Int) + (m : Int) = (n : Int) := by omega
  have hnw := wrap64 (n := n) (by omega)
  obtain ⟨p, hp⟩ : ∃ p, p + 1 = n := ⟨n - 1, by omega⟩
  have hpz : (n : Int) - 1 = (p : Int) := by omega
  have hpw := wrap64 (n := p) (by omega)
  have HN := hide (And.intro hn hp)
  obtain ⟨s0, r0, hcase⟩ : ∃ s0 r0, (mid < m ∧ s0 + b = mid + m ∧ r0 = mid) ∨ (m ≤ mid ∧ s0 = a ∧ r0 = m) := by
    by_cases h : mid < m
    · exact ⟨mid + m - b, mid, .inl ⟨h, by omega, rfl⟩⟩
    · exact ⟨a, m, .inr ⟨by omega, rfl, rfl⟩⟩
  have HCA := hide hcase
  have hs0r : s0 ≤ r0 := by omega
  have hr0d : r0 ≤ mid ∧ r0 ≤ m := by omega
  have has0 : a ≤ s0 := by omega
  have q1 : mid + mid ≤ a + b := by omega
  have q2 : a + b ≤ mid + mid + 1 := by omega
  have hrng : ∀ c, s0 ≤ c → c < r0 → c < d0.size ∧ c ≤ p ∧ p - c < d0.size := fun c h1 h2 => by clear hmid hmidz hmidw hnz hnw hpz hpw; rcases hcase with hc | hc <;> omega
  have HRNG := hide hrng
  have hend : ∀ c, s0 ≤ c → c ≤ r0 → c ≤ n ∧ n - c ≤ b ∧ m ≤ n - c ∧ mid ≤ n - c := fun c h1 h2 => by clear hmid hmidz hmidw hnz hnw hpz hpw; rcases hcase with hc | hc <;> omega
  have HEND := hide hend
  clear T R hC hW hd hdl ha hm hb hsU hsV hno IH hrng hend hcase hn hp hmid hN
  have HCZ := hide HCA
  rcases HCA.out with ⟨k1, k2, k3⟩ | ⟨k1, k2, k3⟩
  all_goals
    first
      | have gz : decide (mid < m) = true := by simp; omega
      | have gz : decide (mid < m) = false := by simp; omega
    first
      | have k2z : (n : Int) - (b : Int) = (s0 : Int) := by have := HN.out; omega
      | have k2z : s0 = a := k2
    have s0w := wrap64 (n := s0) (by omega)
    clear k2
    go_enter F, Tryz.ntmps63
    go_wp2
    go_loopg [20, 21, 23] (r0 - s0) (fun g vi vj _ wr => ∃ (i j : Nat), vi = .int .i64 i ∧ vj = .int .i64 j ∧ s0 ≤ i ∧ i ≤ j ∧ j ≤ r0 ∧ j - i ≤ g ∧ Hid (SWK enc k w0 blk off dk wr) ∧ Hid ((i = s0 ∨ dk[i - 1]!.at_ ≤ dk[mid + m - i]!.at_) ∧ (j = r0 ∨ dk[mid + m - 1 - j]!.at_ < dk[j]!.at_)))
    case atStart => exact ⟨s0, r0, by first | rfl | rw [k2z], by rw [k3], Nat.le_refl _, hs0r, Nat.le_refl _, Nat.le_refl _, HW, hide ⟨.inl rfl, .inl rfl⟩⟩
    case round =>
      obtain ⟨i, j, rfl, rfl, hmi, hij, hjb, hgm, HS, HQ⟩ := hrel
      by_cases hlt : i < j
      · have hltz : (i : Int) < (j : Int) := by omega
        obtain ⟨h, hh⟩ : ∃ h, h = (i + j) / 2 := ⟨_, rfl⟩
        have hhz : ((i : Int) + (j : Int)) / 2 = (h : Int) := by omega
        have hih : i ≤ h := by omega
        have hhj : h < j := by omega
        obtain ⟨rg1, rg2, rg3⟩ := HRNG.out h (by omega) (by omega)
        obtain ⟨q, hq⟩ : ∃ q, q = p - h := ⟨_, rfl⟩
        have hqz : (p : Int) - (h : Int) = (q : Int) := by omega
        have hhd : h < dk.size := by omega
        have hqd : q < dk.size := by omega
        have h1 : (h : Int) < (d0.size : Int) := by omega
        have h2 : (q : Int) < (d0.size : Int) := by omega
        have hwp := wrap64 (n := h) (by omega)
        have hwq := wrap64 (n := q) (by omega)
        have lh := HS.out.ld HR.out hs P h hhd
        have la := HS.out.ld HR.out hs P q hqd
        have hcg := fun n os => HS.out.cmp HCC.out hs dk[q]! dk[h]! n os
        have HG := hide (fun n os => HS.out.grown n os)
        generalize hy : dk[h]! = y at lh hcg
        generalize hx : dk[q]! = x at la hcg
        have HY := hide (And.intro hy hx)
        have hcf : cfT x y < 0 ↔ x.at_ < y.at_ := cmpI_neg
        generalize hv : cfT x y = v at hcg hcf
        have HCF := hide hcf
        have HQQ := hide hq
        clear hy hx hv hcf hh hq rg1 rg2 rg3
        by_cases hlv : v < 0
        · have gv : decide (v < 0) = true := decide_eq_true hlv
          have HLV := hide hlv
          clear hlv
          go_wp2_with fail
          go_quiet_grown (first | (go_at_fn g; refine Calls.grown_of (hcg _ _)))
          go_wp2
          go_roundg (h - i)
          case measure => omega
          case rel => exact ⟨i, h, rfl, rfl, hmi, hih, by omega, Nat.le_refl _, HG.out _ _, hide ⟨HQ.out.1, .inr (by
            have := HCF.out.1 HLV.out
            have e : mid + m - 1 - h = q := by have := HN.out; have := HQQ.out; omega
            rw [e, HY.out.1, HY.out.2]; exact this)⟩⟩
        · have gv : decide (v < 0) = false := decide_eq_false hlv
          have HLV := hide hlv
          clear hlv
          go_wp2_with fail
          go_quiet_grown (first | (go_at_fn g; refine Calls.grown_of (hcg _ _)))
          go_wp2
          go_roundg (j - (h + 1))
          case measure => omega
          case rel => exact ⟨h + 1, j, by go_num, rfl, by omega, by omega, hjb, Nat.le_refl _, HG.out _ _, hide ⟨.inr (by
            have := HCF.out
            have := HLV.out
            have e : mid + m - (h + 1) = q := by have := HN.out; have := HQQ.out; omega
            rw [e, Nat.add_sub_cancel, HY.out.1, HY.out.2]; omega), HQ.out.2⟩⟩
      · have hltz : ¬ (i : Int) < (j : Int) := by omega
        obtain rfl : i = j := by omega
        obtain ⟨U1, U2, V1, V2, hu, hv, hsi, hmi2, cc1, cc2⟩ := sym_cut HM.out.1 HM.out.2.1 HM.out.2.2.1 HM.out.2.2.2 HMID.out HCZ.out hmi hjb HQ.out.1 HQ.out.2
        obtain ⟨e, he⟩ : ∃ e, e + i = n := ⟨n - i, by have := (HEND.out i hmi hjb).1; omega⟩
        obtain ⟨y1, y2, y3, y4⟩ := HEND.out i hmi hjb
        have hez : (n : Int) - (i : Int) = (e : Int) := by omega
        have hew := wrap64 (n := e) (by omega)
        have hml : m = i + U2.length := by have := HM.out.2.2.1; rw [hu] at this; simp at this; omega
        have hel : e = m + V1.length := by have := HN.out.1; omega
        have hbl : b = e + V2.length := by have := HM.out.2.2.2; rw [hv] at this; simp at this; omega
        have HCut := hide (show Cut A B U V a m b mid i e U1 U2 V1 V2 from ⟨hu, hv, HM.out.2.1, hsi, hml, hmi2, hel, hbl, cc1, cc2, hu ▸ HV.out.1, hv ▸ HV.out.2.1, hu ▸ hv ▸ HV.out.2.2⟩)
        have HSW := hide (show Turned enc k w0 blk off d0 (A ++ U ++ V ++ B) wr from ⟨dk, HS.out, hs, HM.out.1⟩)
        have KR := hide (fun W h l r => HCut.out.rot (W := W) (cap := cap) (fn := .func (.func g) #[] cb) HT.out HR.out hsz h l r)
        have KL := hide (fun W h l r => HCut.out.low (W := W) HIH.out hN1 h l r)
        have KH := hide (fun W h l r => HCut.out.high (W := W) HIH.out hN2 h l r)
        have hul : 1 < U1.length + U2.length := by have := hU; rw [hu] at this; simpa using this
        have hvl : 1 < V1.length + V2.length := by have := hV; rw [hv] at this; simpa using this
        have hbal : 1 < U1.length + V1.length := by omega
        have hbal2 : 1 < U2.length + V2.length := by omega
        have KNR := hide (fun h0 => HCut.out.norot HSW.out h0)
        have KNL := hide (fun W h l => HCut.out.nolow (enc := enc) (k := k) (w0 := w0) (blk := blk) (off := off) (d0 := d0) (W := W) h l)
        have KNH := hide (fun W h l => HCut.out.nohigh (enc := enc) (k := k) (w0 := w0) (blk := blk) (off := off) (d0 := d0) (W := W) h l)
        replace HS := HSW
        have HE := hide (And.intro hml (And.intro hel (And.intro hbl (And.intro hsi hmi2))))
        clear hml hel hbl hsi hmi2 hu hv cc1 cc2 HQ hij hgm hmi hjb he
        generalize U1.length = u1 at *
        generalize U2.length = u2 at *
        generalize V1.length = v1 at *
        generalize V2.length = v2 at *
        have C : (0 < u1 ∧ u2 = 0 ∧ v1 = 0 ∧ 0 < v2) ∨ (0 < u1 ∧ u2 = 0 ∧ 0 < v1 ∧ 0 < v2) ∨ (u1 = 0 ∧ 0 < u2 ∧ 0 < v1 ∧ v2 = 0) ∨ (u1 = 0 ∧ 0 < u2 ∧ 0 < v1 ∧ 0 < v2) ∨ (0 < u1 ∧ 0 < u2 ∧ 0 < v1 ∧ v2 = 0) ∨ (0 < u1 ∧ 0 < u2 ∧ v1 = 0 ∧ 0 < v2) ∨ (0 < u1 ∧ 0 < u2 ∧ 0 < v1 ∧ 0 < v2) := by omega
        have HC2 := hide (And.intro hul (And.intro hvl (And.intro hbal hbal2)))
        clear hul hvl hbal hbal2
        rcases C with ⟨l1p, l2p, r1p, r2p⟩ | ⟨l1p, l2p, r1p, r2p⟩ | ⟨l1p, l2p, r1p, r2p⟩ | ⟨l1p, l2p, r1p, r2p⟩ | ⟨l1p, l2p, r1p, r2p⟩ | ⟨l1p, l2p, r1p, r2p⟩ | ⟨l1p, l2p, r1p, r2p⟩
        · try (exfalso; have hg := HE.out; omega)
          all_goals
            (have hg := HE.out; (first | (have g1 : (i : Int) < (m : Int) := by omega) | (have g1 : ¬ (i : Int) < (m : Int) := by omega)); (first | (have g2 : (m : Int) < (e : Int) := by omega) | (have g2 : ¬ (m : Int) < (e : Int) := by omega)); (first | (have g3 : (a : Int) < (i : Int) := by omega) | (have g3 : ¬ (a : Int) < (i : Int) := by omega)); (first | (have g4 : (i : Int) < (mid : Int) := by omega) | (have g4 : ¬ (i : Int) < (mid : Int) := by omega)); (first | (have g5 : (mid : Int) < (e : Int) := by omega) | (have g5 : ¬ (mid : Int) < (e : Int) := by omega)); (first | (have g6 : (e : Int) < (b : Int) := by omega) | (have g6 : ¬ (e : Int) < (b : Int) := by omega)); have HL := hide (And.intro l1p (And.intro l2p (And.intro r1p r2p))); clear l1p l2p r1p r2p hg ham hmb hmid1 hmid2 hs0r hr0d y1 y2 y3 y4 q1 q2)
            (have HS1 := hide (KNR.out (by first | exact .inl HL.out.2.1 | exact .inr HL.out.2.2.1)))
            (have HS2 := hide (KNL.out _ HS1.out (by first | exact .inl HL.out.1 | exact .inr HL.out.2.2.1)))
            (have HS3 := hide (KNH.out _ HS2.out (by first | exact .inl HL.out.2.1 | exact .inr HL.out.2.2.2)))
            (go_wp2; go_end0; exact ⟨rfl, HS3.out⟩)
        · try (exfalso; have hg := HE.out; omega)
          all_goals
            (have hg := HE.out; (first | (have g1 : (i : Int) < (m : Int) := by omega) | (have g1 : ¬ (i : Int) < (m : Int) := by omega)); (first | (have g2 : (m : Int) < (e : Int) := by omega) | (have g2 : ¬ (m : Int) < (e : Int) := by omega)); (first | (have g3 : (a : Int) < (i : Int) := by omega) | (have g3 : ¬ (a : Int) < (i : Int) := by omega)); (first | (have g4 : (i : Int) < (mid : Int) := by omega) | (have g4 : ¬ (i : Int) < (mid : Int) := by omega)); (first | (have g5 : (mid : Int) < (e : Int) := by omega) | (have g5 : ¬ (mid : Int) < (e : Int) := by omega)); (first | (have g6 : (e : Int) < (b : Int) := by omega) | (have g6 : ¬ (e : Int) < (b : Int) := by omega)); have HL := hide (And.intro l1p (And.intro l2p (And.intro r1p r2p))); clear l1p l2p r1p r2p hg ham hmb hmid1 hmid2 hs0r hr0d y1 y2 y3 y4 q1 q2)
            (have HS1 := hide (KNR.out (by first | exact .inl HL.out.2.1 | exact .inr HL.out.2.2.1)))
            (go_wp2_with fail; refine (KL.out _ HS1.out HL.out.1 HL.out.2.2.1).mono ?_; rintro e1 w2 ⟨rfl, hw1⟩; have HS2 := hide hw1; clear hw1)
            (have HS3 := hide (KNH.out _ HS2.out (by first | exact .inl HL.out.2.1 | exact .inr HL.out.2.2.2)))
            (go_wp2; go_end0; exact ⟨rfl, HS3.out⟩)
        · try (exfalso; have hg := HE.out; omega)
          all_goals
            (have hg := HE.out; (first | (have g1 : (i : Int) < (m : Int) := by omega) | (have g1 : ¬ (i : Int) < (m : Int) := by omega)); (first | (have g2 : (m : Int) < (e : Int) := by omega) | (have g2 : ¬ (m : Int) < (e : Int) := by omega)); (first | (have g3 : (a : Int) < (i : Int) := by omega) | (have g3 : ¬ (a : Int) < (i : Int) := by omega)); (first | (have g4 : (i : Int) < (mid : Int) := by omega) | (have g4 : ¬ (i : Int) < (mid : Int) := by omega)); (first | (have g5 : (mid : Int) < (e : Int) := by omega) | (have g5 : ¬ (mid : Int) < (e : Int) := by omega)); (first | (have g6 : (e : Int) < (b : Int) := by omega) | (have g6 : ¬ (e : Int) < (b : Int) := by omega)); have HL := hide (And.intro l1p (And.intro l2p (And.intro r1p r2p))); clear l1p l2p r1p r2p hg ham hmb hmid1 hmid2 hs0r hr0d y1 y2 y3 y4 q1 q2)
            (go_wp2_with fail; refine (KR.out _ HS.out HL.out.2.1 HL.out.2.2.1).mono ?_; rintro e1 w1 ⟨rfl, hw1⟩; have HS1 := hide hw1; clear hw1)
            (have HS2 := hide (KNL.out _ HS1.out (by first | exact .inl HL.out.1 | exact .inr HL.out.2.2.1)))
            (have HS3 := hide (KNH.out _ HS2.out (by first | exact .inl HL.out.2.1 | exact .inr HL.out.2.2.2)))
            (go_wp2; go_end0; exact ⟨rfl, HS3.out⟩)
        · try (exfalso; have hg := HE.out; omega)
          all_goals
            (have hg := HE.out; (first | (have g1 : (i : Int) < (m : Int) := by omega) | (have g1 : ¬ (i : Int) < (m : Int) := by omega)); (first | (have g2 : (m : Int) < (e : Int) := by omega) | (have g2 : ¬ (m : Int) < (e : Int) := by omega)); (first | (have g3 : (a : Int) < (i : Int) := by omega) | (have g3 : ¬ (a : Int) < (i : Int) := by omega)); (first | (have g4 : (i : Int) < (mid : Int) := by omega) | (have g4 : ¬ (i : Int) < (mid : Int) := by omega)); (first | (have g5 : (mid : Int) < (e : Int) := by omega) | (have g5 : ¬ (mid : Int) < (e : Int) := by omega)); (first | (have g6 : (e : Int) < (b : Int) := by omega) | (have g6 : ¬ (e : Int) < (b : Int) := by omega)); have HL := hide (And.intro l1p (And.intro l2p (And.intro r1p r2p))); clear l1p l2p r1p r2p hg ham hmb hmid1 hmid2 hs0r hr0d y1 y2 y3 y4 q1 q2)
            (go_wp2_with fail; refine (KR.out _ HS.out HL.out.2.1 HL.out.2.2.1).mono ?_; rintro e1 w1 ⟨rfl, hw1⟩; have HS1 := hide hw1; clear hw1)
            (have HS2 := hide (KNL.out _ HS1.out (by first | exact .inl HL.out.1 | exact .inr HL.out.2.2.1)))
            (go_wp2_with fail; refine (KH.out _ HS2.out HL.out.2.1 HL.out.2.2.2).mono ?_; rintro e1 w3 ⟨rfl, hw1⟩; have HS3 := hide hw1; clear hw1)
            (go_wp2; go_end0; exact ⟨rfl, HS3.out⟩)
        · try (exfalso; have hg := HE.out; omega)
          all_goals
            (have hg := HE.out; (first | (have g1 : (i : Int) < (m : Int) := by omega) | (have g1 : ¬ (i : Int) < (m : Int) := by omega)); (first | (have g2 : (m : Int) < (e : Int) := by omega) | (have g2 : ¬ (m : Int) < (e : Int) := by omega)); (first | (have g3 : (a : Int) < (i : Int) := by omega) | (have g3 : ¬ (a : Int) < (i : Int) := by omega)); (first | (have g4 : (i : Int) < (mid : Int) := by omega) | (have g4 : ¬ (i : Int) < (mid : Int) := by omega)); (first | (have g5 : (mid : Int) < (e : Int) := by omega) | (have g5 : ¬ (mid : Int) < (e : Int) := by omega)); (first | (have g6 : (e : Int) < (b : Int) := by omega) | (have g6 : ¬ (e : Int) < (b : Int) := by omega)); have HL := hide (And.intro l1p (And.intro l2p (And.intro r1p r2p))); clear l1p l2p r1p r2p hg ham hmb hmid1 hmid2 hs0r hr0d y1 y2 y3 y4 q1 q2)
            (go_wp2_with fail; refine (KR.out _ HS.out HL.out.2.1 HL.out.2.2.1).mono ?_; rintro e1 w1 ⟨rfl, hw1⟩; have HS1 := hide hw1; clear hw1)
            (go_wp2_with fail; refine (KL.out _ HS1.out HL.out.1 HL.out.2.2.1).mono ?_; rintro e1 w2 ⟨rfl, hw1⟩; have HS2 := hide hw1; clear hw1)
            (have HS3 := hide (KNH.out _ HS2.out (by first | exact .inl HL.out.2.1 | exact .inr HL.out.2.2.2)))
            (go_wp2; go_end0; exact ⟨rfl, HS3.out⟩)
        · try (exfalso; have hg := HE.out; omega)
          all_goals
            (have hg := HE.out; (first | (have g1 : (i : Int) < (m : Int) := by omega) | (have g1 : ¬ (i : Int) < (m : Int) := by omega)); (first | (have g2 : (m : Int) < (e : Int) := by omega) | (have g2 : ¬ (m : Int) < (e : Int) := by omega)); (first | (have g3 : (a : Int) < (i : Int) := by omega) | (have g3 : ¬ (a : Int) < (i : Int) := by omega)); (first | (have g4 : (i : Int) < (mid : Int) := by omega) | (have g4 : ¬ (i : Int) < (mid : Int) := by omega)); (first | (have g5 : (mid : Int) < (e : Int) := by omega) | (have g5 : ¬ (mid : Int) < (e : Int) := by omega)); (first | (have g6 : (e : Int) < (b : Int) := by omega) | (have g6 : ¬ (e : Int) < (b : Int) := by omega)); have HL := hide (And.intro l1p (And.intro l2p (And.intro r1p r2p))); clear l1p l2p r1p r2p hg ham hmb hmid1 hmid2 hs0r hr0d y1 y2 y3 y4 q1 q2)
            (have HS1 := hide (KNR.out (by first | exact .inl HL.out.2.1 | exact .inr HL.out.2.2.1)))
            (have HS2 := hide (KNL.out _ HS1.out (by first | exact .inl HL.out.1 | exact .inr HL.out.2.2.1)))
            (go_wp2_with fail; refine (KH.out _ HS2.out HL.out.2.1 HL.out.2.2.2).mono ?_; rintro e1 w3 ⟨rfl, hw1⟩; have HS3 := hide hw1; clear hw1)
            (go_wp2; go_end0; exact ⟨rfl, HS3.out⟩)
        · try (exfalso; have hg := HE.out; omega)
          all_goals
            (have hg := HE.out; (first | (have g1 : (i : Int) < (m : Int) := by omega) | (have g1 : ¬ (i : Int) < (m : Int) := by omega)); (first | (have g2 : (m : Int) < (e : Int) := by omega) | (have g2 : ¬ (m : Int) < (e : Int) := by omega)); (first | (have g3 : (a : Int) < (i : Int) := by omega) | (have g3 : ¬ (a : Int) < (i : Int) := by omega)); (first | (have g4 : (i : Int) < (mid : Int) := by omega) | (have g4 : ¬ (i : Int) < (mid : Int) := by omega)); (first | (have g5 : (mid : Int) < (e : Int) := by omega) | (have g5 : ¬ (mid : Int) < (e : Int) := by omega)); (first | (have g6 : (e : Int) < (b : Int) := by omega) | (have g6 : ¬ (e : Int) < (b : Int) := by omega)); have HL := hide (And.intro l1p (And.intro l2p (And.intro r1p r2p))); clear l1p l2p r1p r2p hg ham hmb hmid1 hmid2 hs0r hr0d y1 y2 y3 y4 q1 q2)
            (go_wp2_with fail; refine (KR.out _ HS.out HL.out.2.1 HL.out.2.2.1).mono ?_; rintro e1 w1 ⟨rfl, hw1⟩; have HS1 := hide hw1; clear hw1)
            (go_wp2_with fail; refine (KL.out _ HS1.out HL.out.1 HL.out.2.2.1).mono ?_; rintro e1 w2 ⟨rfl, hw1⟩; have HS2 := hide hw1; clear hw1)
            (go_wp2_with fail; refine (KH.out _ HS2.out HL.out.2.1 HL.out.2.2.2).mono ?_; rintro e1 w3 ⟨rfl, hw1⟩; have HS3 := hide hw1; clear hw1)
            (go_wp2; go_end0; exact ⟨rfl, HS3.out⟩)
end Go.Proofs.YtnngemgfochodaaGreat
namespace Go.Proofs.YtnngemgfochodaaGreat
open Go.RowKit Go.Shelf Go.Sort Go.Mine Go.Mine.B Go.Proofs
variable {P : Program} {k : Nat} {enc : Tr → List Value} {w0 W : World} {blk off : Nat} {d0 dk : Array Tr}
theorem one_of {l : List Tr} (h : l.length = 1) : ∃ x, l = [x] := by
  rcases l with _ | ⟨x, l⟩
  · simp at h
  · exact ⟨x, by simp at h; simp [h]⟩
theorem sym69 {g : Nat} {cb : Array Value} (T : StT P k) (R : RowK enc k w0 blk off d0) (hC : CmpLays P g cb enc k cfT blk off d0.size w0) (eg : ∀ args w, (callFunc g args).run P w = .ok (.enter g args) w) (hsz : d0.size < 4611686018427387904) (cap : Nat) :
    ∀ N, SymIH P enc k w0 blk off d0 cap (.func (.func g) #[] cb) N
  | 0 => by
    intro W dk A U V B a m b _ _ _ _ hm hb hU hV _ _ _ hN
    omega
  | N + 1 => by
    intro W dk A U V B a m b hW hs hd ha hm hb hU hV hsU hsV hno hN
    by_cases h1 : U.length = 1
    · obtain ⟨x, rfl⟩ := one_of h1
      exact symLow69 T R hC eg hW hs hd a m b cap ha (by simpa using hm) hb hV hsV hno hsz
    · by_cases h2 : V.length = 1
      · obtain ⟨x, rfl⟩ := one_of h2
        exact symHigh69 T R hC eg hW hs hd a m b cap ha hm (by simpa using hb) (by omega) hsU hno hsz
      · exact symGen69 T R hC eg hW hs hd a m b cap ha hm hb (by omega) (by omega) hsU hsV hno hsz N (sym69 T R hC eg hsz cap N) (by omega)
/-- insertion sort's place in the program -/
def insRen : Go.Shelf.Ren := ⟨fun | 20 => 62 | n => n, fun | 22 => 23 | 24 => 38 | 25 => 54 | n => n, fun | n => n⟩
theorem insL (T : StT P k) : SlLaysF0.n20 P insRen := {
  mixed := T.mixed
  f20 := ⟨Tryz.f62.name, by decide, T.f68.trans (congrArg some (by kernel_rfl))⟩
  t0 := T.t0
  a0 := T.a0
  z0 := T.z0
  v0 := T.v0
  t3 := T.t3
  a3 := T.a3
  z3 := T.z3
  v3 := T.v3
  t4 := T.t4
  a4 := T.a4
  z4 := T.z4
  v4 := T.v4
  t22 := T.t23
  a22 := T.a23
  z22 := T.z23
  v22 := T.v23
  t25 := T.t70
  a25 := T.a70
  z25 := T.z70
  v25 := T.v70 }
theorem ltOf_less : ltOf cfT = less := by
  funext x y
  show decide (cfT x y < 0) = decide (x.at_ < y.at_)
  rw [decide_eq_decide]
  exact cmpI_neg
theorem CmpLays.on {g : Nat} {cb : Array Value} {cf : Tr → Tr → Int} (hC : CmpLays P g cb enc k cf blk off d0.size w0) (hW : SWK enc k w0 blk off dk W) (hblk : blk < w0.heap.size) (hs : dk.size = d0.size) : CmpLays P g cb enc k cf blk off dk.size W := by
  obtain ⟨n, os, rfl⟩ := hW
  intro m os' dk' hs' x y
  rw [sortWorldK_on enc k w0 blk off n m dk dk' os os' hblk hs']
  exact hC _ _ dk' (hs'.trans hs) x y
theorem ins68 {g : Nat} {cb : Array Value} (T : StT P k) (R : RowK enc k w0 blk off d0) (hC : CmpLays P g cb enc k cfT blk off d0.size w0) (eg : ∀ args w, (callFunc g args).run P w = .ok (.enter g args) w) (hW : SWK enc k w0 blk off dk W) (hs : dk.size = d0.size) {X L S : List Tr} (hd : dk.toList = X ++ L ++ S) (hno : L.Pairwise fun x y => x.no < y.no) (a b cap : Nat) (ha : a = X.length) (hb : b = a + L.length) (hsz : d0.size < 4611686018427387904) :
    Calls P 62 #[.slice (some ⟨blk, off, none⟩) d0.size cap, .int .i64 a, .int .i64 b, .func (.func g) #[] cb] W fun e w' => e = .returned (.tuple #[]) ∧ ∃ d' M, SWK enc k w0 blk off d' w' ∧ d'.size = d0.size ∧ d'.toList = X ++ M ++ S ∧ M.Perm L ∧ M.Pairwise lt2 := by
  have hl : d0.size = X.length + L.length + S.length := by rw [← hs, ← Array.length_toList, hd]; simp; omega
  have h := AnyQ.insertionSortCmpFunc (P := P) (ρ := insRen) (insL T) k T.aE T.zE enc R.hk R.h1 cfT g cb blk off cap a b dk W eg (CmpLays.on hC hW R.hblk hs) (hW.holds R.hblk R.hH hs) (hW.lt R.hblk) (by omega) (by omega) (by omega)
  rw [hs] at h
  refine Calls.mono h ?_
  rintro e w' ⟨he, n, os, hw⟩
  obtain ⟨M, m1, m2, m3⟩ := insertion_is hd hno
  subst ha
  subst hb
  rw [ltOf_less] at hw
  have hsz' : (insertionSort less dk X.length (X.length + L.length)).size = dk.size := by
    rw [← Array.length_toList, m1, ← Array.length_toList, hd]
    simp only [List.length_append, m2.length_eq]
  refine ⟨he, _, M, ?_, hsz'.trans hs, m1, m2, m3⟩
  rw [hw]
  exact hW.on R.hblk n _ os hsz'
end Go.Proofs.YtnngemgfochodaaGreat
namespace Go.Proofs.YtnngemgfochodaaGreat
open Go.RowKit Go.Shelf Go.Sort Go.Mine Go.Mine.B Go.Proofs
variable {P : Program} {k : Nat} {enc : Tr → List Value} {w0 W : World} {blk off : Nat} {d0 dk : Array Tr}
/-- so far: the first a elements done in blocks of s', the rest in blocks of s -/
def SoFar (enc : Tr → List Value) (k : Nat) (w0 : World) (blk off : Nat) (d0 : Array Tr) (s s' a : Nat) (w : World) : Prop :=
  ∃ d X0 X Y0 Y, SWK enc k w0 blk off d w ∧ d.size = d0.size ∧ d.toList = X ++ Y ∧ d0.toList = X0 ++ Y0 ∧ X0.length = a ∧ X.length = a ∧ Done s' X0 X ∧ Runs s Y0 Y
/-- all in blocks of s -/
def AllIn (enc : Tr → List Value) (k : Nat) (w0 : World) (blk off : Nat) (d0 : Array Tr) (s : Nat) (w : World) : Prop := ∃ d, SWK enc k w0 blk off d w ∧ d.size = d0.size ∧ Runs s d0.toList d.toList
/-- the first a elements in blocks of 20, the others as they came -/
def InsTo (enc : Tr → List Value) (k : Nat) (w0 : World) (blk off : Nat) (d0 : Array Tr) (a : Nat) (w : World) : Prop :=
  ∃ d X0 X Y, SWK enc k w0 blk off d w ∧ d.size = d0.size ∧ d.toList = X ++ Y ∧ d0.toList = X0 ++ Y ∧ X0.length = a ∧ X.length = a ∧ Done 20 X0 X
section
variable {g : Nat} {cb : Array Value} {a s s' cap : Nat}
theorem InsTo.round (h : InsTo enc k w0 blk off d0 a W) (T : StT P k) (R : RowK enc k w0 blk off d0) (hC : CmpLays P g cb enc k cfT blk off d0.size w0) (eg : ∀ args w, (callFunc g args).run P w = .ok (.enter g args) w) (hno : d0.toList.Pairwise fun x y => x.no < y.no) (hb : a + 20 ≤ d0.size) (hsz : d0.size < 4611686018427387904) (b : Nat) (hb2 : b = a + 20) :
    Calls P 62 #[.slice (some ⟨blk, off, none⟩) d0.size cap, .int .i64 a, .int .i64 b, .func (.func g) #[] cb] W fun e w' => e = .returned (.tuple #[]) ∧ InsTo enc k w0 blk off d0 b w' := by
  obtain ⟨d, X0, X, Y, hW, hs, hd, hd0, l0, l1, hdone⟩ := h
  have hl : d0.size = a + Y.length := by rw [← Array.length_toList, hd0]; simp [l0]
  obtain ⟨Y1, Y2, rfl, hy⟩ := split_at Y (k := 20) (by omega)
  rw [hd0] at hno
  obtain ⟨_, n2, _⟩ := List.pairwise_append.1 hno
  obtain ⟨n3, _, _⟩ := List.pairwise_append.1 n2
  refine (ins68 (X := X) (L := Y1) (S := Y2) T R hC eg hW hs (by rw [hd]; simp) n3 a b cap l1.symm (by omega) hsz).mono ?_
  rintro e w' ⟨he, d', M, hw, hs', hd', m1, m2⟩
  exact ⟨he, d', X0 ++ Y1, X ++ M, Y2, hw, hs', hd', by rw [hd0]; simp, by simp; omega, by simp [m1.length_eq]; omega, hdone.snoc hy m1 m2⟩
theorem InsTo.last (h : InsTo enc k w0 blk off d0 a W) (T : StT P k) (R : RowK enc k w0 blk off d0) (hC : CmpLays P g cb enc k cfT blk off d0.size w0) (eg : ∀ args w, (callFunc g args).run P w = .ok (.enter g args) w) (hno : d0.toList.Pairwise fun x y => x.no < y.no) (hb : d0.size < a + 20) (hsz : d0.size < 4611686018427387904) :
    Calls P 62 #[.slice (some ⟨blk, off, none⟩) d0.size cap, .int .i64 a, .int .i64 d0.size, .func (.func g) #[] cb] W fun e w' => e = .returned (.tuple #[]) ∧ AllIn enc k w0 blk off d0 20 w' := by
  obtain ⟨d, X0, X, Y, hW, hs, hd, hd0, l0, l1, hdone⟩ := h
  have hl : d0.size = a + Y.length := by rw [← Array.length_toList, hd0]; simp [l0]
  rw [hd0] at hno
  obtain ⟨_, n2, _⟩ := List.pairwise_append.1 hno
  refine (ins68 (X := X) (L := Y) (S := []) T R hC eg hW hs (by rw [hd]; simp) n2 a d0.size cap l1.symm hl hsz).mono ?_
  rintro e w' ⟨he, d', M, hw, hs', hd', m1, m2⟩
  refine ⟨he, d', hw, hs', ?_⟩
  rw [hd0, hd', List.append_nil]
  exact hdone.end_ (by omega) m1 m2
theorem SoFar.start (h : AllIn enc k w0 blk off d0 s W) : SoFar enc k w0 blk off d0 s (2 * s) 0 W := by
  obtain ⟨d, hw, hs, hr⟩ := h
  exact ⟨d, [], [], _, _, hw, hs, by simp, by simp, rfl, rfl, Done.nil _, hr⟩
theorem SoFar.round (h : SoFar enc k w0 blk off d0 s (2 * s) a W) (T : StT P k) (R : RowK enc k w0 blk off d0) (hC : CmpLays P g cb enc k cfT blk off d0.size w0) (eg : ∀ args w, (callFunc g args).run P w = .ok (.enter g args) w) (hno : d0.toList.Pairwise fun x y => x.no < y.no) (h0 : 0 < s) (hb : a + 2 * s ≤ d0.size) (hsz : d0.size < 4611686018427387904) (m b : Nat) (hm : m = a + s) (hb2 : b = a + 2 * s) :
    Calls P 63 #[.slice (some ⟨blk, off, none⟩) d0.size cap, .int .i64 a, .int .i64 m, .int .i64 b, .func (.func g) #[] cb] W fun e w' => e = .returned (.tuple #[]) ∧ SoFar enc k w0 blk off d0 s (2 * s) b w' := by
  obtain ⟨d, X0, X, Y0, Y, hW, hs, hd, hd0, l0, l1, hdone, hr⟩ := h
  have hl : d0.size = a + Y0.length := by rw [← Array.length_toList, hd0]; simp [l0]
  obtain ⟨b0, c0, r0, b1, c1, r, rfl, rfl, e1, p1, p2, s1, s2, hr', hc, hcase, hcs⟩ := hr.two h0 (by omega)
  simp only [List.length_append] at hl
  have hc0 : c0.length = s := by
    rcases hcase with rfl | h
    · simp at hl; omega
    · exact h
  rw [hd0] at hno
  obtain ⟨_, n2, _⟩ := List.pairwise_append.1 hno
  obtain ⟨n3, _, _⟩ := List.pairwise_append.1 n2
  have hbl := p1.length_eq
  have hcl := p2.length_eq
  refine (sym69 T R hC eg hsz cap (2 * s) W d X b1 c1 r a m b hW hs (by rw [hd]; simp) l1.symm (by omega) (by omega) (by omega) hc s1 s2 (noLt_perm n3 p1 p2) (by omega)).mono ?_
  rintro e w' ⟨he, d', M, hw, hs', hd', hM⟩
  refine ⟨he, d', X0 ++ (b0 ++ c0), X ++ M, r0, r, hw, hs', hd', by rw [hd0]; simp, by simp; omega, ?_, hdone.snoc (by simp; omega) (hM.1.trans (p1.append p2)) hM.2, hr'⟩
  have := hM.1.length_eq
  simp at this ⊢; omega
theorem SoFar.last (h : SoFar enc k w0 blk off d0 s (2 * s) a W) (T : StT P k) (R : RowK enc k w0 blk off d0) (hC : CmpLays P g cb enc k cfT blk off d0.size w0) (eg : ∀ args w, (callFunc g args).run P w = .ok (.enter g args) w) (hno : d0.toList.Pairwise fun x y => x.no < y.no) (h0 : 0 < s) (hb : d0.size < a + 2 * s) (hb1 : a + s < d0.size) (hsz : d0.size < 4611686018427387904) (m : Nat) (hm : m = a + s) :
    Calls P 63 #[.slice (some ⟨blk, off, none⟩) d0.size cap, .int .i64 a, .int .i64 m, .int .i64 d0.size, .func (.func g) #[] cb] W fun e w' => e = .returned (.tuple #[]) ∧ AllIn enc k w0 blk off d0 (2 * s) w' := by
  obtain ⟨d, X0, X, Y0, Y, hW, hs, hd, hd0, l0, l1, hdone, hr⟩ := h
  have hl : d0.size = a + Y0.length := by rw [← Array.length_toList, hd0]; simp [l0]
  obtain ⟨b0, c0, r0, b1, c1, r, rfl, rfl, e1, p1, p2, s1, s2, hr', hc, hcase, hcs⟩ := hr.two h0 (by omega)
  simp only [List.length_append] at hl
  have hr0 : r0 = [] := by
    rcases hcase with h | h
    · exact h
    · exact List.length_eq_zero_iff.1 (by omega)
  subst hr0
  have hr1 : r = [] := List.perm_nil.1 hr'.perm
  subst hr1
  simp at hl
  rw [hd0] at hno
  obtain ⟨_, n2, _⟩ := List.pairwise_append.1 hno
  obtain ⟨n3, _, _⟩ := List.pairwise_append.1 n2
  have hbl := p1.length_eq
  have hcl := p2.length_eq
  refine (sym69 T R hC eg hsz cap (2 * s) W d X b1 c1 [] a m d0.size hW hs (by rw [hd]; simp) l1.symm (by omega) (by omega) (by omega) hc s1 s2 (noLt_perm n3 p1 p2) (by omega)).mono ?_
  rintro e w' ⟨he, d', M, hw, hs', hd', hM⟩
  refine ⟨he, d', hw, hs', ?_⟩
  rw [hd0, hd', List.append_nil, List.append_nil]
  exact hdone.end_ (by simp; omega) (hM.1.trans (p1.append p2)) hM.2
theorem SoFar.none (h : SoFar enc k w0 blk off d0 s (2 * s) a W) (hb1 : d0.size ≤ a + s) : AllIn enc k w0 blk off d0 (2 * s) W := by
  obtain ⟨d, X0, X, Y0, Y, hW, hs, hd, hd0, l0, l1, hdone, hr⟩ := h
  have hl : d0.size = a + Y0.length := by rw [← Array.length_toList, hd0]; simp [l0]
  obtain ⟨p, q⟩ := hr.one (by omega)
  refine ⟨d, hW, hs, ?_⟩
  rw [hd0, hd]
  exact hdone.end_ (by omega) p q
theorem AllIn.sorted (h : AllIn enc k w0 blk off d0 s W) (hs : d0.size ≤ s) : ∃ d, SWK enc k w0 blk off d W ∧ d.size = d0.size ∧ d.toList.Perm d0.toList ∧ d.toList.Pairwise lt2 := by
  obtain ⟨d, hW, hz, hr⟩ := h
  obtain ⟨p, q⟩ := hr.one (by simpa using hs)
  exact ⟨d, hW, hz, p, q⟩
end
/-- sorted where it lay -/
def SortedAt (enc : Tr → List Value) (k : Nat) (w0 : World) (blk off : Nat) (d0 : Array Tr) (w : World) : Prop := ∃ d, SWK enc k w0 blk off d w ∧ d.size = d0.size ∧ d.toList.Perm d0.toList ∧ d.toList.Pairwise lt2
set_option maxHeartbeats 4000000 in
set_option maxRecDepth 1000000 in
theorem stable64 {g : Nat} {cb : Array Value} (T : StT P k) (R : RowK enc k w0 blk off d0) (hC : CmpLays P g cb enc k cfT blk off d0.size w0) (eg : ∀ args w, (callFunc g args).run P w = .ok (.enter g args) w) (hno : d0.toList.Pairwise fun x y => x.no < y.no) (hsz : d0.size < 1152921504606846976) (cap : Nat) :
    Calls P 49 #[.slice (some ⟨blk, off, none⟩) d0.size cap, .int .i64 d0.size, .func (.func g) #[] cb] w0 fun e w' => e = .returned (.tuple #[]) ∧ SortedAt enc k w0 blk off d0 w' := by
  have mixed := T.mixed; have t0 := T.t0; have a0 := T.a0; have z0 := T.z0; have v0 := T.v0; have t3 := T.t3; have a3 := T.a3; have z3 := T.z3; have v3 := T.v3; have t4 := T.t4; have a4 := T.a4; have z4 := T.z4; have v4 := T.v4; have t23 := T.t23; have a23 := T.a23; have z23 := T.z23; have v23 := T.v23; have t70 := T.t70; have a70 := T.a70; have z70 := T.z70; have v70 := T.v70; have t89 := T.t89; have a89 := T.a89; have z89 := T.z89; have v89 := T.v89; have aE := T.aE; have zE := T.zE; have u23 := run_underlying T.t23
  have F := T.f64
  have e68 : ∀ args w, (callFunc 62 args).run P w = .ok (.enter 62 args) w := enters_of T.f68 (by kernel_rfl) rfl
  have e69 : ∀ args w, (callFunc 63 args).run P w = .ok (.enter 63 args) w := enters_of T.f69 (by kernel_rfl) rfl
  have KI := hide (fun a b W h hb hb2 => InsTo.round (W := W) (a := a) (cap := cap) h T R hC eg hno hb (by omega) b hb2)
  have KJ := hide (fun a W h hb => InsTo.last (W := W) (a := a) (cap := cap) h T R hC eg hno hb (by omega))
  have KS := hide (fun s a m b W h h0 hb hm hb2 => SoFar.round (W := W) (a := a) (s := s) (cap := cap) h T R hC eg hno h0 hb (by omega) m b hm hb2)
  have KL := hide (fun s a m W h h0 hb hb1 hm => SoFar.last (W := W) (a := a) (s := s) (cap := cap) h T R hC eg hno h0 hb hb1 (by omega) m hm)
  have H0 := hide (show InsTo enc k w0 blk off d0 0 w0 from ⟨d0, [], [], d0.toList, SWK.start R.hH, rfl, by simp, by simp, rfl, rfl, Done.nil _⟩)
  clear T R hC hno
  generalize hn : d0.size = n at *
  have HN := hide hn
  clear hn
  go_enter F, Tryz.ntmps49
  go_wp2
  go_loopg [7, 8] n (fun gg va vb wr => ∃ a : Nat, va = .int .i64 a ∧ vb = .int .i64 ((a + 20 : Nat) : Int) ∧ a ≤ n ∧ n - a ≤ gg ∧ Hid (InsTo enc k w0 blk off d0 a wr))
  case atStart => exact ⟨0, rfl, rfl, Nat.zero_le _, Nat.le_refl _, H0⟩
  case round =>
    obtain ⟨a, rfl, rfl, han, hgg, HI⟩ := hrel
    obtain ⟨b, hb⟩ : ∃ b, b = a + 20 := ⟨_, rfl⟩
    have hbz : ((a + 20 : Nat) : Int) = (b : Int) := by omega
    have hbz2 : (a : Int) + 20 = (b : Int) := by omega
    by_cases hlt : b ≤ n
    · have hltz : (b : Int) ≤ (n : Int) := by omega
      have C := hide (KI.out a b wr HI.out (by omega) hb)
      obtain ⟨c, hc⟩ : ∃ c, c = b + 20 := ⟨_, rfl⟩
      have hb20 : (b : Int) + 20 = (c : Int) := by omega
      have hbw := wrap64 (n := c) (by omega)
      have HCC := hide (show (c : Int) = ((b + 20 : Nat) : Int) by omega)
      clear hc
      have hm : n - b < n - a := by omega
      have HB := hide hb
      clear hb
      go_wp2_with fail
      refine C.out.mono ?_
      rintro e w' ⟨rfl, hw⟩
      have HW' := hide hw
      clear hw
      go_wp2
      go_roundg (n - b)
      case measure => omega
      case rel => exact ⟨b, rfl, by rw [HCC.out], hlt, Nat.le_refl _, HW'⟩
    · have hltz : ¬ (b : Int) ≤ (n : Int) := by omega
      have C := hide (KJ.out a wr HI.out (by omega))
      have HB := hide hb
      clear hb
      go_wp2_with fail
      refine C.out.mono ?_
      rintro e w' ⟨rfl, hw⟩
      have HA := hide hw
      clear hw
      go_wp2
      go_loopg [6, 7, 8, 9] (2 * n) (fun gg vs _ _ _ wr => ∃ s : Nat, vs = .int .i64 s ∧ 20 ≤ s ∧ s ≤ 2 * n + 20 ∧ 2 * n - s ≤ gg ∧ Hid (AllIn enc k w0 blk off d0 s wr))
      case atStart => exact ⟨20, rfl, Nat.le_refl _, by omega, by omega, HA⟩
      case round =>
        obtain ⟨s, rfl, hs20, hsn, hgs, HS⟩ := hrel
        by_cases hsl : s < n
        · have hslz : (s : Int) < (n : Int) := by omega
          obtain ⟨t, ht⟩ : ∃ t, t = 2 * s := ⟨_, rfl⟩
          have htz : (2 : Int) * (s : Int) = (t : Int) := by omega
          have htz2 : (s : Int) * 2 = (t : Int) := by omega
          have htw := wrap64 (n := t) (by omega)
          have HT := hide ht
          have H1 := hide (SoFar.start HS.out)
          clear ht
          go_wp2
          go_loopg [7, 8] n (fun g2 va vb wr => ∃ a : Nat, va = .int .i64 a ∧ vb = .int .i64 ((a + t : Nat) : Int) ∧ a ≤ n ∧ n - a ≤ g2 ∧ Hid (SoFar enc k w0 blk off d0 s (2 * s) a wr))
          case atStart => exact ⟨0, rfl, by first | rfl | (simp; done) | go_num, Nat.zero_le _, Nat.le_refl _, H1⟩
          case round =>
            obtain ⟨a, rfl, rfl, han, hgg2, HI⟩ := hrel
            obtain ⟨b, hb⟩ : ∃ b, b = a + t := ⟨_, rfl⟩
            obtain ⟨m, hm⟩ : ∃ m, m = a + s := ⟨_, rfl⟩
            have hbz : ((a + t : Nat) : Int) = (b : Int) := by omega
            have hbz2 : (a : Int) + (t : Int) = (b : Int) := by omega
            have hmz : (a : Int) + (s : Int) = (m : Int) := by omega
            have hmw := wrap64 (n := m) (by omega)
            have hT := HT.out
            by_cases hlt2 : b ≤ n
            · have hltz : (b : Int) ≤ (n : Int) := by omega
              have C := hide (KS.out s a m b wr HI.out (by omega) (by omega) hm (by omega))
              obtain ⟨c, hc⟩ : ∃ c, c = b + t := ⟨_, rfl⟩
              have hb20 : (b : Int) + (t : Int) = (c : Int) := by omega
              have hbw := wrap64 (n := c) (by omega)
              have HCC := hide (show (c : Int) = ((b + t : Nat) : Int) by omega)
              clear hc
              have hmm : n - b < n - a := by omega
              have HB := hide (And.intro hb hm)
              clear hb hm hT
              go_wp2_with fail
              refine C.out.mono ?_
              rintro e w' ⟨rfl, hw⟩
              have HW' := hide hw
              clear hw
              go_wp2
              go_roundg (n - b)
              case measure => omega
              case rel => exact ⟨b, rfl, by rw [HCC.out], hlt2, Nat.le_refl _, HW'⟩
            · have hltz : ¬ (b : Int) ≤ (n : Int) := by omega
              have hmt : 2 * n - t < 2 * n - s := by omega
              have htn : t ≤ 2 * n + 20 := by omega
              have ht20 : 20 ≤ t := by omega
              by_cases hml : m < n
              · have hmlz : (m : Int) < (n : Int) := by omega
                have C := hide (KL.out s a m wr HI.out (by omega) (by omega) (by omega) hm)
                have HB := hide (And.intro hb hm)
                clear hb hm hT
                go_wp2_with fail
                refine C.out.mono ?_
                rintro e w' ⟨rfl, hw⟩
                have HW' := hide hw
                clear hw
                go_wp2
                go_roundg (2 * n - t)
                case measure => omega
                case rel => exact ⟨t, rfl, ht20, htn, Nat.le_refl _, by rw [HT.out]; exact HW'⟩
              · have hmlz : ¬ (m : Int) < (n : Int) := by omega
                have HW' := hide (HI.out.none (by rw [HN.out]; omega))
                have HB := hide (And.intro hb hm)
                clear hb hm hT
                go_wp2
                go_roundg (2 * n - t)
                case measure => omega
                case rel => exact ⟨t, rfl, ht20, htn, Nat.le_refl _, by rw [HT.out]; exact HW'⟩
        · have hslz : ¬ (s : Int) < (n : Int) := by omega
          go_wp2
          go_end0
          exact ⟨rfl, HS.out.sorted (by rw [HN.out]; omega)⟩
theorem stable51 {g : Nat} {cb : Array Value} (T : StT P k) (f51 : P.funcs[22]? = some Tryz.f22) (R : RowK enc k w0 blk off d0) (hC : CmpLays P g cb enc k cfT blk off d0.size w0) (eg : ∀ args w, (callFunc g args).run P w = .ok (.enter g args) w) (hno : d0.toList.Pairwise fun x y => x.no < y.no) (hsz : d0.size < 1152921504606846976) (cap : Nat) :
    Calls P 22 #[.slice (some ⟨blk, off, none⟩) d0.size cap, .func (.func g) #[] cb] w0 fun e w' => e = .returned (.tuple #[]) ∧ SortedAt enc k w0 blk off d0 w' := by
  have K := hide (stable64 T R hC eg hno hsz cap)
  have e64 : ∀ args w, (callFunc 49 args).run P w = .ok (.enter 49 args) w := enters_of T.f64 (by kernel_rfl) rfl
  have mixed := T.mixed; have t0 := T.t0; have a0 := T.a0; have z0 := T.z0; have v0 := T.v0; have t3 := T.t3; have a3 := T.a3; have z3 := T.z3; have v3 := T.v3; have t4 := T.t4; have a4 := T.a4; have z4 := T.z4; have v4 := T.v4; have t23 := T.t23; have a23 := T.a23; have z23 := T.z23; have v23 := T.v23; have t70 := T.t70; have a70 := T.a70; have z70 := T.z70; have v70 := T.v70; have t89 := T.t89; have a89 := T.a89; have z89 := T.z89; have v89 := T.v89; have aE := T.aE; have zE := T.zE; have u23 := run_underlying T.t23
  clear T R hC hno
  go_enter f51, Tryz.ntmps22
  go_wp2_with fail
  refine K.out.mono ?_
  rintro e w' ⟨rfl, hw⟩
  have HW' := hide hw
  clear hw
  go_wp2
  go_end0
  exact ⟨rfl, HW'.out⟩
end Go.Proofs.YtnngemgfochodaaGreat
