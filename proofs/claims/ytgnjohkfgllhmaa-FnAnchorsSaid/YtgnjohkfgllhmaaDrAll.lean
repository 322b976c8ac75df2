
import Derived.BigQuiet
import Derived.StillTailTactics
import Derived.Lib.Hide
import Derived.Laws.BitsLemmas
import Derived.Deep.RegionHeld3
import Derived.Deep.DeepCutAuto
import Derived.Test.YtgnjohkfgllhmaaGl
import Derived.Test.YtgnjohkfgllhmaaCopyW
import Derived.Test.YtgnjohkfgllhmaaDec
import Derived.Test.YtgnjohkfgllhmaaMkXY
/- The source of draws: a block that holds the code, the place and the seed. Conditions: as each states. -/
namespace Go.Proofs.Ytgnjohkfgllhmaa
open Go.RowKit
set_option linter.unusedVariables false
set_option maxRecDepth 100000

/-- a byte's cell -/
def u8R : Rel Int := AndR (FlatR fun v : Int => [.int .u8 v]) fun v => 0 ≤ v ∧ v ≤ 255
theorem good_u8 : Good u8R := good_and (good_flat _) _
theorem opens_u8 : Opens Try.prog 5 u8R := by
  intro H enc w fuel cs x h
  obtain ⟨n, rfl, _, hw⟩ := DataW.trod_int Try.underlying5 h
  refine ⟨n, rfl, ?_⟩
  have e1 : IntKind.u8.min = 0 := rfl
  have e2 : IntKind.u8.max = 255 := rfl
  simp [Lit.wf, e1, e2] at hw
  show 0 ≤ n ∧ n ≤ 255
  omega
/-- block b is a source: its code, its place k, its seed -/
def SrcR (w : World) (b : Nat) (A : Option Addr) (n c k : Nat) (seed : Int) : Prop := w.heap[b]? = some (.cells #[.slice A n c, .int .i64 (k : Int), .int .u64 seed] 134 (0, 0))
theorem SrcR.lt {w : World} {b : Nat} {A : Option Addr} {n c k : Nat} {seed : Int} (h : SrcR w b A n c k seed) : b < w.heap.size := (Array.getElem?_eq_some_iff.1 h).1
theorem SrcR.c0 {w : World} {b : Nat} {A : Option Addr} {n c k : Nat} {seed : Int} (h : SrcR w b A n c k seed) : w.cell? ⟨b, 0, none⟩ = some (.slice A n c) := by rw [Go.Joins.cell_of_block h]; rfl
theorem SrcR.c1 {w : World} {b : Nat} {A : Option Addr} {n c k : Nat} {seed : Int} (h : SrcR w b A n c k seed) : w.cell? ⟨b, 1, none⟩ = some (.int .i64 k) := by rw [Go.Joins.cell_of_block h]; rfl
theorem SrcR.c2 {w : World} {b : Nat} {A : Option Addr} {n c k : Nat} {seed : Int} (h : SrcR w b A n c k seed) : w.cell? ⟨b, 2, none⟩ = some (.int .u64 seed) := by rw [Go.Joins.cell_of_block h]; rfl
theorem SrcR.fz {w : World} {b : Nat} {A : Option Addr} {n c k : Nat} {seed : Int} (h : SrcR w b A n c k seed) (o : Nat) : w.frozen? ⟨b, o, none⟩ = false := Go.Joins.unfrozen_of_block h o
theorem SrcR.keep {w w' : World} {b : Nat} {A : Option Addr} {n c k : Nat} {seed : Int} (h : SrcR w b A n c k seed) (hk : w'.heap[b]? = w.heap[b]?) : SrcR w' b A n c k seed := hk.trans h
theorem SrcR.drewN {w : World} {b : Nat} {A : Option Addr} {n c k : Nat} {seed : Int} (h : SrcR w b A n c k seed) (q : Nat) : SrcR (w.drewN q) b A n c k seed := h
theorem SrcR.set {w : World} {b : Nat} {A : Option Addr} {n c k : Nat} {seed : Int} (h : SrcR w b A n c k seed) (k' : Nat) (seed' : Int) : SrcR ((w.setCell ⟨b, 1, none⟩ (.int .i64 (k' : Int))).setCell ⟨b, 2, none⟩ (.int .u64 seed')) b A n c k' seed' :=
  Go.Joins.block_setCell (Go.Joins.block_setCell h (.int .i64 (k' : Int))) (.int .u64 seed')

theorem u8_at {w : World} {lo hi n : Nat} {A : Option Addr} {L : List Int} (h : RdS 1 u8R w lo hi A n L) {j : Nat} (hj : j < n) : ∃ b off v, A = some ⟨b, off, none⟩ ∧ lo ≤ b ∧ b < hi ∧ 0 ≤ v ∧ v ≤ 255 ∧ w.cell? ⟨b, off + j, none⟩ = some (.int .u8 v) := by
  obtain ⟨h1, h2⟩ := RdS.parted (R := FlatR fun v : Int => [.int .u8 v]) (p := fun v => 0 ≤ v ∧ v ≤ 255) h
  obtain ⟨b, off, v, rfl, hb0, hb1, hja, hcs⟩ := h1.at hj
  have h3 := h2 v (List.mem_of_getElem? hja)
  exact ⟨b, off, v, rfl, hb0, hb1, h3.1, h3.2, by have := hcs 0 _ rfl; simpa using this⟩

theorem u64_wrap_bd (n : Int) : 0 ≤ IntKind.u64.wrap n ∧ IntKind.u64.wrap n < 2 ^ 64 := by rw [IntKind.wrap_u64]; omega
theorem byte_of {sd : Int} (h : 0 ≤ sd ∧ sd < 2 ^ 64) : 0 ≤ wrap64 (bits BinOp.and IntKind.u64 (sd / 1099511627776) 255) ∧ wrap64 (bits BinOp.and IntKind.u64 (sd / 1099511627776) 255) ≤ 255 := by
  have e := bits_mask .u64 64 (by decide) (fun n h0 h1 => by rw [IntKind.wrap_u64]; omega) 8 (by omega) (sd / 1099511627776) (by omega) (by omega)
  have e2 : (2 : Int) ^ 8 - 1 = 255 := by decide
  rw [e2] at e
  rw [e]
  have e3 : (2 : Int) ^ 8 = 256 := by decide
  rw [e3]
  have hb : 0 ≤ sd / 1099511627776 % 256 ∧ sd / 1099511627776 % 256 ≤ 255 := by omega
  rw [IntWalk.wrap64_in _ (by omega)]
  exact hb
theorem grown_setA {w W : World} {b : Nat} (h : w.grownBy W (some b)) (o : Nat) (u : Value) : w.grownBy (W.setCell ⟨b, o, none⟩ u) (some b) :=
  ⟨h.os, h.tape, h.output, by simpa using h.size, fun i hi hn => (Below.heap_setCell W ⟨b, o, none⟩ u i (fun e => hn (by rw [e]))).trans (h.block i hi hn)⟩
theorem grown_drewA {w W : World} {row : Option Nat} (h : w.grownBy W row) (q : Nat) : w.grownBy (W.drewN q) row := ⟨h.os, h.tape, h.output, h.size, h.block⟩
set_option maxHeartbeats 1000000 in
theorem next_any (b : Nat) (A : Option Addr) (n c k lo hi : Nat) (seed : Int) (L : List Int) (w : World) (hs : SrcR w b A n c k seed) (hr : RdS 1 u8R w lo hi A n L) (hn : n ≤ 1000000000) (hk : k ≤ 1000000000) :
    Calls Try.prog 108 #[.pointer (some ⟨b, 0, none⟩)] w fun e w' => ∃ (x seed' : Int), e = .returned (.int .i64 x) ∧ 0 ≤ x ∧ x ≤ 255 ∧ SrcR w' b A n c (k + 1) seed' ∧ w.grownBy w' (some b) := by
  have c0 := hs.c0
  have c1 := hs.c1
  have c2 := hs.c2
  have f1 := hs.fz 1
  have f2 := hs.fz 2
  have hb := hs.lt
  replace hs := Lib.hid hs
  by_cases hlt : k < n
  · obtain ⟨b1, o1, v, rfl, _, hbw, hv0, hv1, q0⟩ := u8_at hr hlt
    clear hr
    have hb1 := cell_lt q0
    simp only at hb1
    have hki : decide ((k : Int) < (n : Int)) = true := by simp; omega
    have hkj : decide ((k : Int) + 1 ≤ (n : Int)) = true := by simp; omega
    have hkb : (0 : Int) ≤ (k : Int) ∧ (k : Int) < (n : Int) := by omega
    go_enter Try.func108, Try.ntmps108
    go_wp2_with fail
    go_quiet (fail)
    go_wp2_with fail
    obtain ⟨nq1, hq1⟩ : ∃ m, m = nq := ⟨_, rfl⟩
    subst hq1
    go_quiet (fail)
    go_wp2_with fail
    generalize hsd : IntKind.u64.wrap (IntKind.u64.wrap (IntKind.u64.wrap (seed * 6364136223846793005) + v) + 1442695040888963407) = sd
    clear hsd
    have hs2 := Lib.hid ((hs.out.drewN (nq1 + nq)).set (k + 1) sd)
    go_quiet (fail)
    go_wp2_with fail
    go_ret
    exact ⟨v, sd, rfl, hv0, hv1, hs2.out, by repeat (first | exact World.grownBy.refl _ _ | refine grown_setA ?_ _ _ | refine grown_drewA ?_ _)⟩
  · clear hr
    have hki : decide ((k : Int) < (n : Int)) = false := by simp; omega
    have hkj : decide ((k : Int) + 1 ≤ (n : Int)) = false := by simp; omega
    go_enter Try.func108, Try.ntmps108
    go_wp2_with fail
    go_quiet (fail)
    go_wp2_with fail
    have hx := u64_wrap_bd (IntKind.u64.wrap (IntKind.u64.wrap (seed * 6364136223846793005)) + 1442695040888963407)
    generalize hsd : IntKind.u64.wrap (IntKind.u64.wrap (IntKind.u64.wrap (seed * 6364136223846793005)) + 1442695040888963407) = sd at hx
    clear hsd
    replace hx := Lib.hid (byte_of hx)
    have hs2 := Lib.hid ((hs.out.drewN nq).set (k + 1) sd)
    go_quiet (fail)
    go_wp2_with fail
    go_ret
    exact ⟨_, sd, rfl, hx.out.1, hx.out.2, hs2.out, by repeat (first | exact World.grownBy.refl _ _ | refine grown_setA ?_ _ _ | refine grown_drewA ?_ _)⟩
/-- block b is a source whose place is k -/
def Src0 (w : World) (b k : Nat) : Prop := ∃ (A : Option Addr) (n c lo hi : Nat) (seed : Int) (L : List Int), SrcR w b A n c k seed ∧ RdS 1 u8R w lo hi A n L ∧ hi ≤ b ∧ n ≤ 1000000000
theorem Src0.lt {w : World} {b k : Nat} (h : Src0 w b k) : b < w.heap.size := by obtain ⟨_, _, _, _, _, _, _, h, _⟩ := h; exact h.lt
theorem Src0.kept {w w' : World} {b k B : Nat} (h : Src0 w b k) (hb : Below B w w') (hB : b < B) : Src0 w' b k := by
  obtain ⟨A, n, c, lo, hi, seed, L, h1, h2, h3, h4⟩ := h
  exact ⟨A, n, c, lo, hi, seed, L, h1.keep (hb.block b hB), h2.frame good_u8 (Below.sameB hb (by omega)), h3, h4⟩
theorem Src0.drew {w : World} {b k : Nat} (h : Src0 w b k) : Src0 w.drew b k := h
theorem nextS_any (b k : Nat) (w : World) (hs : Src0 w b k) (hk : k ≤ 1000000000) :
    Calls Try.prog 108 #[.pointer (some ⟨b, 0, none⟩)] w fun e w' => ∃ x : Int, e = .returned (.int .i64 x) ∧ 0 ≤ x ∧ x ≤ 255 ∧ Src0 w' b (k + 1) ∧ w.grownBy w' (some b) := by
  obtain ⟨A, n, c, lo, hi, seed, L, h1, h2, h3, h4⟩ := hs
  refine (next_any b A n c k lo hi seed L w h1 h2 h4 hk).mono ?_
  rintro e w' ⟨x, seed', rfl, hx0, hx1, hs', hg⟩
  exact ⟨x, rfl, hx0, hx1, ⟨A, n, c, lo, hi, seed', L, hs', h2.frame good_u8 (fun i h5 h6 => hg.block i (by have := h1.lt; omega) (by intro e; injection e with e; omega)), h3, h4⟩, hg⟩
theorem grown_tr {a b c : World} {row : Option Nat} (h : a.grownBy b row) (k : b.grownBy c row) : a.grownBy c row :=
  ⟨k.os.trans h.os, k.tape.trans h.tape, k.output.trans h.output, Nat.le_trans h.size k.size, fun i hi hn => (k.block i (Nat.lt_of_lt_of_le hi h.size) hn).trans (h.block i hi hn)⟩
theorem grown_of {W w' : World} (hb : Below W.heap.size W w') (row : Option Nat) : W.grownBy w' row := ⟨hb.os, hb.tape, hb.output, hb.size, fun k hk _ => hb.block k hk⟩

set_option maxHeartbeats 1000000 in
theorem pick_any (b k : Nat) (m : Int) (w : World) (hs : Src0 w b k) (hk : k ≤ 999999990) :
    Calls Try.prog 71 #[.pointer (some ⟨b, 0, none⟩), .int .i64 m] w fun e w' => ∃ (r : Int) (k' : Nat), e = .returned (.int .i64 r) ∧ 0 ≤ r ∧ (1 < m → r < m) ∧ (m ≤ 1 → r = 0) ∧ Src0 w' b k' ∧ k' ≤ k + 2 ∧ w.grownBy w' (some b) := by
  have hs0 := Lib.hid hs
  have hc := Lib.hid (nextS_any b k w hs (by omega))
  clear hs
  by_cases h1 : m ≤ 1
  · go_enter Try.func71, Try.ntmps71
    go_wp2_with fail
    go_ret
    exact ⟨0, k, rfl, by omega, by omega, fun _ => rfl, hs0.out, by omega, World.grownBy.refl _ _⟩
  by_cases h2 : 200 < m
  · go_enter Try.func71, Try.ntmps71
    go_wp2_with fail
    refine hc.out.mono ?_
    rintro e w1 ⟨x, rfl, hx0, hx1, hs1, hg1⟩
    have hc1 := Lib.hid (nextS_any b (k + 1) w1 hs1 (by omega))
    clear hs1 hc
    go_wp2_with fail
    refine hc1.out.mono ?_
    rintro e w2 ⟨y, rfl, hy0, hy1, hs2, hg2⟩
    replace hs2 := Lib.hid hs2
    go_wp2_with fail
    go_ret
    have hy := Int.emod_nonneg (x * 256 + y) (show m ≠ 0 by omega)
    have hz := Int.emod_lt_of_pos (x * 256 + y) (show 0 < m by omega)
    exact ⟨_, _, rfl, by omega, fun _ => by omega, by omega, hs2.out, by omega, grown_tr hg1 hg2⟩
  · go_enter Try.func71, Try.ntmps71
    go_wp2_with fail
    refine hc.out.mono ?_
    rintro e w1 ⟨x, rfl, hx0, hx1, hs1, hg1⟩
    replace hs1 := Lib.hid hs1
    go_wp2_with fail
    go_ret
    have hy := Int.emod_nonneg x (show m ≠ 0 by omega)
    have hz := Int.emod_lt_of_pos x (show 0 < m by omega)
    exact ⟨_, _, rfl, by omega, fun _ => by omega, by omega, hs1.out, by omega, hg1⟩

theorem one_any (b k : Nat) (m : Int) (w : World) (hs : Src0 w b k) (hk : k ≤ 999999990) :
    Calls Try.prog 109 #[.pointer (some ⟨b, 0, none⟩), .int .i64 m] w fun e w' => ∃ (r : Bool) (k' : Nat), e = .returned (.bool r) ∧ Src0 w' b k' ∧ k' ≤ k + 2 ∧ w.grownBy w' (some b) := by
  have hc := Lib.hid (pick_any b k m w hs hk)
  clear hs
  go_enter Try.func109, Try.ntmps109
  go_wp2_with fail
  refine hc.out.mono ?_
  rintro e w1 ⟨r, k', rfl, _, _, _, hs1, hk1, hg1⟩
  replace hs1 := Lib.hid hs1
  go_wp2_with fail
  go_ret
  exact ⟨_, k', rfl, hs1.out, hk1, hg1⟩

set_option maxHeartbeats 1000000 in
theorem among_any (b k : Nat) (A : Option Addr) (n c lo hi : Nat) (L : List Int) (w : World) (hs : Src0 w b k) (hk : k ≤ 999999990) (hr : RdS 1 (FlatR intC) w lo hi A n L) (hb : b < lo ∨ hi ≤ b) (hhi : hi ≤ w.heap.size) (hn : 1 ≤ n) (hn' : n ≤ 1000000) :
    Calls Try.prog 70 #[.pointer (some ⟨b, 0, none⟩), .slice A n c] w fun e w' => ∃ (r : Int) (k' : Nat), e = .returned (.int .i64 r) ∧ r ∈ L ∧ Src0 w' b k' ∧ k' ≤ k + 2 ∧ w.grownBy w' (some b) := by
  have hc := Lib.hid (pick_any b k n w hs hk)
  have hbl := hs.lt
  clear hs
  obtain ⟨b0, o0, _, rfl, hb0, hb1, _, _⟩ := hr.at (j := 0) (by omega)
  replace hr := Lib.hid hr
  go_enter Try.func70, Try.ntmps70
  go_wp2_with fail
  refine hc.out.mono ?_
  rintro e w1 ⟨r, k', rfl, h0, h1, h2, hs1, hk1, hg1⟩
  have hz1 := hg1.size
  obtain ⟨m, rfl⟩ : ∃ m : Nat, r = m := ⟨r.toNat, by omega⟩
  have hmn : m < n := by
    rcases Nat.lt_or_ge 1 n with h | h
    · have := h1 (by omega); omega
    · have := h2 (by omega); omega
  obtain ⟨b2, o2, v, hA, _, hbw, hja, hcs⟩ := (hr.out.frame (good_flat _) (grown_sameB hg1 hhi hb)).at hmn
  injection hA with hA
  injection hA with hA1 hA2
  subst hA1 hA2
  have q0 := hcs 0 _ rfl
  simp only [Nat.mul_one, Nat.add_zero] at q0
  have hmk : (0 : Int) ≤ (m : Int) ∧ (m : Int) < (n : Int) := by omega
  have hbw' : b0 < w1.heap.size := by omega
  replace hja := Lib.hid hja
  replace hs1 := Lib.hid hs1
  clear hcs h1 h2
  go_wp2_with fail
  go_ret
  exact ⟨v, k', rfl, List.mem_of_getElem? hja.out, hs1.out, hk1, hg1⟩

set_option maxHeartbeats 1000000 in
theorem l03Coord_any (b k : Nat) (m : Int) (w : World) (hs : Src0 w b k) (hk : k ≤ 999999900) (hm0 : 0 ≤ m) (hm1 : m ≤ 1000000000) :
    Calls Try.prog 134 #[.pointer (some ⟨b, 0, none⟩), .int .i64 m] w fun e w' => ∃ (r : Int) (k' : Nat), e = .returned (.int .i64 r) ∧ -m ≤ r ∧ r ≤ m ∧ Src0 w' b k' ∧ k' ≤ k + 5 ∧ w.grownBy w' (some b) := by
  have hc := Lib.hid (nextS_any b k w hs (by omega))
  clear hs
  go_enter Try.func134, Try.ntmps134
  go_wp2_with fail
  refine hc.out.mono ?_
  rintro e w1 ⟨x, rfl, hx0, hx1, hs1, hg1⟩
  have hc1 := Lib.hid (nextS_any b (k + 1) w1 hs1 (by omega))
  clear hs1 hc
  go_wp2_with fail
  refine hc1.out.mono ?_
  rintro e w2 ⟨y, rfl, hy0, hy1, hs2, hg2⟩
  have hc2 := Lib.hid (nextS_any b (k + 1 + 1) w2 hs2 (by omega))
  replace hg2 := grown_tr hg1 hg2
  clear hs2 hc1 hg1
  go_wp2_with fail
  refine hc2.out.mono ?_
  rintro e w3 ⟨z, rfl, hz0, hz1, hs3, hg3⟩
  have hc3 := Lib.hid (one_any b (k + 1 + 1 + 1) 2 w3 hs3 (by omega))
  replace hg3 := grown_tr hg2 hg3
  clear hs3 hc2 hg2
  have hv0 := Int.emod_nonneg (x * 65536 + y * 256 + z) (show m + 1 ≠ 0 by omega)
  have hv1 := Int.emod_lt_of_pos (x * 65536 + y * 256 + z) (show 0 < m + 1 by omega)
  go_wp2_with fail
  refine hc3.out.mono ?_
  rintro e w4 ⟨t, k', rfl, hs4, hk4, hg4⟩
  replace hg4 := grown_tr hg3 hg4
  replace hs4 := Lib.hid hs4
  clear hc3 hg3
  generalize (x * 65536 + y * 256 + z) % (m + 1) = v at *
  cases t
  · go_wp2_with fail
    go_ret
    exact ⟨_, k', rfl, by omega, by omega, hs4.out, by omega, hg4⟩
  · go_wp2_with fail
    go_ret
    exact ⟨_, k', rfl, by omega, by omega, hs4.out, by omega, hg4⟩
end Go.Proofs.Ytgnjohkfgllhmaa

/- The drawn points, and what an input chooses. Conditions: as each states. -/
namespace Go.Proofs.Ytgnjohkfgllhmaa
open Go.RowKit
set_option linter.unusedVariables false
set_option maxRecDepth 100000

theorem Src0.set {w : World} {b k x o : Nat} {v : Value} (h : Src0 w b k) (hx : b < x) : Src0 (w.setCell ⟨x, o, none⟩ v) b k := h.kept (B := b + 1) (Below.setCell (p := ⟨x, o, none⟩) (Below.refl (b + 1) w) hx v) (by omega)
theorem grown_setO {w W : World} {row : Option Nat} (h : w.grownBy W row) {x : Nat} (hx : w.heap.size ≤ x) (o : Nat) (u : Value) : w.grownBy (W.setCell ⟨x, o, none⟩ u) row :=
  ⟨h.os, h.tape, h.output, by simpa using h.size, fun i hi hn => (Below.heap_setCell W ⟨x, o, none⟩ u i (by simp only; omega)).trans (h.block i hi hn)⟩
def InSq (m : Int) (p : Int × Int) : Prop := (-m ≤ p.1 ∧ p.1 ≤ m) ∧ (-m ≤ p.2 ∧ p.2 ≤ m)
set_option maxHeartbeats 1000000 in
theorem l03Draw_any (b k : Nat) (m : Int) (w : World) (hs : Src0 w b k) (hk : k ≤ 999999800) (hm0 : 0 ≤ m) (hm1 : m ≤ 1000000000) :
    Calls Try.prog 110 #[.pointer (some ⟨b, 0, none⟩), .int .i64 m] w fun e w' => ∃ (x y : Int) (k' : Nat), e = .returned (.agg #[.int .i64 x, .int .i64 y]) ∧ InSq m (x, y) ∧ Src0 w' b k' ∧ k' ≤ k + 10 ∧ w.grownBy w' (some b) := by
  have hbl := hs.lt
  have hc := Lib.hid (l03Coord_any b k m (w.alloc (.cells #[.int .i64 0, .int .i64 0] 30 (0, 0))) (hs.kept (Go.Joins.below_alloc1 _ _) hbl) (by omega) hm0 hm1)
  clear hs
  go_enter Try.func110, Try.ntmps110
  go_wp2_with fail
  refine hc.out.mono ?_
  rintro e w1 ⟨x, k1, rfl, hx0, hx1, hs1, hk1, hg1⟩
  have hz1 := hg1.size
  simp at hz1
  have hn1 : Hid (w1.heap[w.heap.size]? = some (.cells #[.int .i64 0, .int .i64 0] 30 (0, 0))) := (hg1.block _ (by simp) (by intro e; injection e with e; omega)).trans (heap_alloc_new w _)
  have hc1 := Lib.hid (l03Coord_any b k1 m w1 hs1 (by omega) hm0 hm1)
  have hG1 := grown_tr (grown_of (Go.Joins.below_alloc1 _ _) (some b)) hg1
  clear hs1 hc hg1
  go_wp2_with fail
  refine hc1.out.mono ?_
  rintro e w2 ⟨y, k2, rfl, hy0, hy1, hs2, hk2, hg2⟩
  have hz2 := hg2.size
  have hn2 : Hid (w2.heap[w.heap.size]? = some (.cells #[.int .i64 0, .int .i64 0] 30 (0, 0))) := (hg2.block _ (by omega) (by intro e; injection e with e; omega)).trans hn1.out
  have hG2 := Lib.hid (grown_tr hG1 hg2)
  have r0 : w2.cell? ⟨w.heap.size, 0, none⟩ = some (.int .i64 0) := by rw [Go.Joins.cell_of_block hn2.out]; rfl
  have r1 : w2.cell? ⟨w.heap.size, 1, none⟩ = some (.int .i64 0) := by rw [Go.Joins.cell_of_block hn2.out]; rfl
  have rf : ∀ o, w2.frozen? ⟨w.heap.size, o, none⟩ = false := Go.Joins.unfrozen_of_block hn2.out
  have hz : w.heap.size < w2.heap.size := by omega
  replace hs2 := Lib.hid hs2
  clear hc1 hn1 hG1 hg2
  go_wp2_with fail
  refine bodyPost_ret (v := .agg #[.int .i64 x, .int .i64 y]) (by simp [results, Try.results110, go_sem, r0, r1]) rfl ⟨x, y, k2, rfl, ⟨⟨by omega, by omega⟩, by omega, by omega⟩, ?_, by omega, ?_⟩
  · exact (hs2.out.set hbl).set hbl
  · exact grown_setO (grown_setO hG2.out (Nat.le_refl _) _ _) (Nat.le_refl _) _ _
theorem l00From_any (A : Option Addr) (n c : Nat) (w : World) :
    Calls Try.prog 29 #[.slice A n c] w fun e w' => e = .returned (.pointer (some ⟨w.heap.size, 0, none⟩)) ∧ SrcR w' w.heap.size A n c 0 0 ∧ Below w.heap.size w w' := by
  go_enter Try.func29, Try.ntmps29
  go_wp2_with fail
  go_ret
  exact ⟨rfl, heap_alloc_new w _, Go.Joins.below_alloc1 _ _⟩
theorem InSq.mono {m k : Int} {p : Int × Int} (h : InSq m p) (hk : m ≤ k) : InSq k p := ⟨⟨by have := h.1.1; omega, by have := h.1.2; omega⟩, by have := h.2.1; omega, by have := h.2.2; omega⟩
theorem five_in {r : Int} (h : r ∈ [(3 : Int), 6, 30, 1000, 262144]) : 0 ≤ r ∧ r ≤ 262144 := by
  simp at h; omega
theorem heap_new4 (w : World) (a b c d : Obj) : ((((w.alloc a).alloc b).alloc c).alloc d).heap[w.heap.size]? = some a ∧ ((((w.alloc a).alloc b).alloc c).alloc d).heap[w.heap.size + 1]? = some b ∧ ((((w.alloc a).alloc b).alloc c).alloc d).heap[w.heap.size + 2]? = some c ∧ ((((w.alloc a).alloc b).alloc c).alloc d).heap[w.heap.size + 3]? = some d := by
  obtain ⟨h1, h2⟩ := heap_new2 w a b
  obtain ⟨h3, h4⟩ := heap_new2 ((w.alloc a).alloc b) c d
  have e := (Below.refl _ ((w.alloc a).alloc b)).alloc (Nat.le_refl _) c
  have e2 := e.alloc (by simp) d
  have h3' : ((((w.alloc a).alloc b).alloc c).alloc d).heap[w.heap.size + 2]? = some c := by simpa using h3
  have h4' : ((((w.alloc a).alloc b).alloc c).alloc d).heap[w.heap.size + 3]? = some d := by simpa using h4
  exact ⟨(e2.block _ (by simp <;> omega)).trans h1, (e2.block _ (by simp <;> omega)).trans h2, h3', h4'⟩
theorem five_row (w : World) : RdS 1 (FlatR intC) (w.alloc (.cells #[.int .i64 3, .int .i64 6, .int .i64 30, .int .i64 1000, .int .i64 262144] 2 (0, 0))) w.heap.size (w.alloc (.cells #[.int .i64 3, .int .i64 6, .int .i64 30, .int .i64 1000, .int .i64 262144] 2 (0, 0))).heap.size (some ⟨w.heap.size, 0, none⟩) 5 [3, 6, 30, 1000, 262144] := by
  have h : (w.alloc (.cells #[.int .i64 3, .int .i64 6, .int .i64 30, .int .i64 1000, .int .i64 262144] 2 (0, 0))).ownsRow w.heap.size 2 1 (.slice (some ⟨w.heap.size, 0, none⟩) 5 5) 5 [.int .i64 3, .int .i64 6, .int .i64 30, .int .i64 1000, .int .i64 262144] := World.ownsRow_lit w #[.int .i64 3, .int .i64 6, .int .i64 30, .int .i64 1000, .int .i64 262144] 5 (Nat.le_refl _) (by decide) (by simp)
  exact rdS_own intC_len (by omega) h rfl
theorem cell_setO {w : World} {b o x o' : Nat} {v : Value} (h : b ≠ x) : (w.setCell ⟨x, o', none⟩ v).cell? ⟨b, o, none⟩ = w.cell? ⟨b, o, none⟩ := World.cell?_of_block (Below.heap_setCell w ⟨x, o', none⟩ v b h)
abbrev Six (w : World) (b c d : Nat) (x0 x1 y0 y1 z0 z1 : Int) : Prop := w.cell? ⟨b, 0, none⟩ = some (.int .i64 x0) ∧ w.cell? ⟨b, 1, none⟩ = some (.int .i64 x1) ∧ w.cell? ⟨c, 0, none⟩ = some (.int .i64 y0) ∧ w.cell? ⟨c, 1, none⟩ = some (.int .i64 y1) ∧ w.cell? ⟨d, 0, none⟩ = some (.int .i64 z0) ∧ w.cell? ⟨d, 1, none⟩ = some (.int .i64 z1)
theorem Six.set {w : World} {b c d : Nat} {x0 x1 y0 y1 z0 z1 : Int} {x o : Nat} {v : Value} (h : Six w b c d x0 x1 y0 y1 z0 z1) (hb : x < b) (hc : x < c) (hd : x < d) : Six (w.setCell ⟨x, o, none⟩ v) b c d x0 x1 y0 y1 z0 z1 :=
  ⟨(cell_setO (by omega)).trans h.1, (cell_setO (by omega)).trans h.2.1, (cell_setO (by omega)).trans h.2.2.1, (cell_setO (by omega)).trans h.2.2.2.1, (cell_setO (by omega)).trans h.2.2.2.2.1, (cell_setO (by omega)).trans h.2.2.2.2.2⟩
/-- a box with a point, stored into -/
theorem box_put (w : World) (t : Nat) (x y : Int) : Below w.heap.size w (((w.alloc (.cells #[.int .i64 0, .int .i64 0] t (0, 0))).setCell ⟨w.heap.size, 0, none⟩ (.int .i64 x)).setCell ⟨w.heap.size, 1, none⟩ (.int .i64 y)) ∧ (((w.alloc (.cells #[.int .i64 0, .int .i64 0] t (0, 0))).setCell ⟨w.heap.size, 0, none⟩ (.int .i64 x)).setCell ⟨w.heap.size, 1, none⟩ (.int .i64 y)).heap[w.heap.size]? = some (.cells #[.int .i64 x, .int .i64 y] t (0, 0)) :=
  ⟨((Go.Joins.below_alloc1 _ _).setCell (p := ⟨w.heap.size, 0, none⟩) (Nat.le_refl _) _).setCell (p := ⟨w.heap.size, 1, none⟩) (Nat.le_refl _) _, Go.Joins.block_setCell (Go.Joins.block_setCell (heap_alloc_new w _) (.int .i64 x)) (.int .i64 y)⟩
def PtAt (w : World) (b : Nat) (x y : Int) : Prop := w.heap[b]? = some (.cells #[.int .i64 x, .int .i64 y] 30 (0, 0))
theorem PtAt.grown {w w' : World} {b g : Nat} {x y : Int} (h : PtAt w b x y) (hg : w.grownBy w' (some g)) (hn : b ≠ g) : PtAt w' b x y := by
  have hl : b < w.heap.size := (Array.getElem?_eq_some_iff.1 h).1
  exact (hg.block b hl (by intro e; injection e with e; exact hn e)).trans h
theorem PtAt.below {w w' : World} {b : Nat} {x y : Int} (h : PtAt w b x y) (hb : Below w.heap.size w w') : PtAt w' b x y := by
  have hl : b < w.heap.size := (Array.getElem?_eq_some_iff.1 h).1
  exact (hb.block b hl).trans h
theorem PtAt.cells {w : World} {b : Nat} {x y : Int} (h : PtAt w b x y) : w.cell? ⟨b, 0, none⟩ = some (.int .i64 x) ∧ w.cell? ⟨b, 1, none⟩ = some (.int .i64 y) ∧ (∀ o, w.frozen? ⟨b, o, none⟩ = false) ∧ b < w.heap.size :=
  ⟨by rw [Go.Joins.cell_of_block h]; rfl, by rw [Go.Joins.cell_of_block h]; rfl, Go.Joins.unfrozen_of_block h, (Array.getElem?_eq_some_iff.1 h).1⟩
theorem PtAt.put {w : World} {b : Nat} {x y : Int} (h : PtAt w b x y) (x' y' : Int) : PtAt ((w.setCell ⟨b, 0, none⟩ (.int .i64 x')).setCell ⟨b, 1, none⟩ (.int .i64 y')) b x' y' :=
  Go.Joins.block_setCell (Go.Joins.block_setCell h (.int .i64 x')) (.int .i64 y')
theorem PtAt.off {w : World} {b : Nat} {x y : Int} (h : PtAt w b x y) {c o : Nat} {v : Value} (hc : b ≠ c) : PtAt (w.setCell ⟨c, o, none⟩ v) b x y := (Below.heap_setCell w ⟨c, o, none⟩ v b hc).trans h
end Go.Proofs.Ytgnjohkfgllhmaa

/- A drawn loop. Conditions: as each states. -/
namespace Go.Proofs.Ytgnjohkfgllhmaa
open Go.RowKit
set_option linter.unusedVariables false
set_option maxRecDepth 100000

theorem own_grown {w w' : World} {lo e size n b : Nat} {v : Value} {xs : List Value} (h : w.ownsRow lo e size v n xs) (hg : w.grownBy w' (some b)) (hb : b < lo) : w'.ownsRow lo e size v n xs :=
  own_same h fun g hg' => hg.block g (h.lt g hg').2 (by intro e; injection e with e; have := (h.lt g hg').1; omega)

def headK : List Knot → List Knot
  | [] => []
  | q :: K => (q.1, q.2.1, true) :: K
theorem headK_len (K : List Knot) : (headK K).length = K.length := by cases K <;> rfl
theorem headK_cells {K : List Knot} (h : 1 ≤ K.length) : (K.flatMap knotC).set 2 (.bool true) = (headK K).flatMap knotC := by
  cases K with
  | nil => simp at h
  | cons q K => simp [headK, knotC]
theorem Src0.keepL {w w' : World} {b k : Nat} (h : Src0 w b k) (hs : ∀ g, g ≤ b → w'.heap[g]? = w.heap[g]?) : Src0 w' b k := by
  obtain ⟨A, n, c, lo, hi, seed, L, h1, h2, h3, h4⟩ := h
  exact ⟨A, n, c, lo, hi, seed, L, h1.keep (hs b (Nat.le_refl _)), h2.frame good_u8 (fun g _ hg => hs g (by omega)), h3, h4⟩

set_option maxHeartbeats 4000000 in
theorem l10DrawLoop_any (b k : Nat) (m : Int) (w : World) (hs : Src0 w b k) (hk : k ≤ 999990000) (hm0 : 0 ≤ m) (hm1 : m ≤ 100000) :
    Calls Try.prog 111 #[.pointer (some ⟨b, 0, none⟩), .int .i64 m] w fun e w' => ∃ (A' : Option Addr) (n' c' k' : Nat) (K : List Knot), e = .returned (.agg #[.slice A' n' c']) ∧ K.length = n' ∧ 1 ≤ n' ∧ n' ≤ 9 ∧
      w'.ownsRow w.heap.size 167 3 (.slice A' n' c') n' (K.flatMap knotC) ∧ Src0 w' b k' ∧ k' ≤ k + 200 ∧ w.grownBy w' (some b) := by
  have hbl := hs.lt
  have hnew := heap_new2 w (.cells #[.slice none 0 0] 107 (0, 0)) (.cells #[.slice none 0 0] 107 (0, 0))
  have hB0 : Below w.heap.size w ((w.alloc (.cells #[.slice none 0 0] 107 (0, 0))).alloc (.cells #[.slice none 0 0] 107 (0, 0))) := Go.Joins.below_alloc2 _ _ _
  have hz0 : ((w.alloc (.cells #[.slice none 0 0] 107 (0, 0))).alloc (.cells #[.slice none 0 0] 107 (0, 0))).heap.size = w.heap.size + 2 := by simp
  have hs0 := Lib.hid (hs.kept hB0 hbl)
  clear hs
  go_enter Try.func111, Try.ntmps111
  go_wp2_with fail
  generalize ((w.alloc (.cells #[.slice none 0 0] 107 (0, 0))).alloc (.cells #[.slice none 0 0] 107 (0, 0))) = w0 at *
  refine (pick_any b k 9 w0 hs0.out (by omega)).mono ?_
  rintro e w1 ⟨r, k1, rfl, hr0, hr1, _, hs1, hk1, hg1⟩
  have hr9 := hr1 (by omega)
  have hz1 := hg1.size
  have HX1 := Lib.hid ((hg1.block w.heap.size (by omega) (by intro e; injection e with e; omega)).trans hnew.1)
  have HO1 := Lib.hid ((hg1.block (w.heap.size + 1) (by omega) (by intro e; injection e with e; omega)).trans hnew.2)
  have hG1 := grown_tr (grown_of hB0 (some b)) hg1
  replace hs1 := Lib.hid hs1
  obtain ⟨N, hN⟩ : ∃ N : Nat, (N : Int) = 1 + r := ⟨(1 + r).toNat, by omega⟩
  clear hr1 hnew hg1 hB0 hs0
  go_wp2_with fail
  go_loopw [6] (fun i wr => ∃ (t k2 : Nat) (Ao : Option Addr) (co : Nat) (K : List Knot), i = .int .i64 t ∧ K.length + t = N ∧ wr.heap[w.heap.size + 1]? = some (.cells #[.slice Ao K.length co] 107 (0, 0)) ∧ wr.heap[w.heap.size]? = some (.cells #[.slice none 0 0] 107 (0, 0)) ∧
    wr.ownsRow (w.heap.size + 2) 167 3 (.slice Ao K.length co) K.length (K.flatMap knotC) ∧ Src0 wr b k2 ∧ k2 + 12 * t ≤ k + 2 + 12 * N ∧ w.heap.size + 2 ≤ wr.heap.size ∧ w.grownBy wr (some b)) (fun i wr => (intOf i).toNat)
  case atStart => exact ⟨N, k1, none, 0, [], by rw [hN], by simp, HO1.out, HX1.out, World.ownsRow_nil _ _ _ _, hs1.out, by omega, by omega, hG1⟩
  case round =>
    clear HX1 HO1 hG1 hs1 hz1
    obtain ⟨t, k2, Ao, co, K, rfl, hKt, HO, HX, hrow, hsr, hk2, hzr, hG⟩ := hrel
    have c1 : wr.cell? ⟨w.heap.size + 1, 0, none⟩ = some (.slice Ao K.length co) := by rw [Go.Joins.cell_of_block HO]; rfl
    have f1 : ∀ o, wr.frozen? ⟨w.heap.size + 1, o, none⟩ = false := Go.Joins.unfrozen_of_block HO
    have hXl : w.heap.size + 1 < wr.heap.size := by omega
    have hbr := hsr.lt
    replace HO := Lib.hid HO
    replace HX := Lib.hid HX
    by_cases ht : 0 < t
    · have hti : (0 : Int) < (t : Int) := by omega
      have hcD := Lib.hid (l03Draw_any b k2 m wr.drew hsr.drew (by omega) hm0 (by omega))
      have hcP := Lib.hid (fun (k3 : Nat) (W : World) (h : Src0 W b k3) (hk : k3 ≤ 999999990) => pick_any b k3 5 W h hk)
      replace hrow := Lib.hid hrow
      go_wp2_with fail
      go_region_law (first
        | (refine stepAppAt rfl (.tmp 16) (.tmp 24) elemKnot rfl (v := .slice Ao K.length co) (n := K.length) (xs := K.flatMap knotC) rfl ((own_grown hrow.out hG4.out (by omega)).alloc _) rfl (src_at (cs := [.int .i64 x, .int .i64 y, .bool (decide (1 < r4))]) rfl (by simp [Value.oneCell']) (by simp)) (by omega) (by omega) (by simp; omega) (K.length + 1) rfl ?_; intro A5 c5 w5 ho5 hg5; have hne : ∀ g, g < w.heap.size + 2 → (Value.slice Ao K.length co).ownBlock ≠ some g := (fun g hg e => by have := (hrow.out.lt _ e).1; omega); have hk5 : ∀ g, g < w.heap.size + 2 → w5.heap[g]? = w4.heap[g]? := (fun g hg => (hg5.block g (by simp; omega) (fun e => hne g hg e.symm)).trans (Below.heap_alloc _ _ _ (by omega))); have q5 : w5.cell? ⟨w.heap.size + 1, 0, none⟩ = some (.slice Ao K.length co) := ((World.cell?_of_block (hk5 (w.heap.size + 1) (by omega))).trans q4); have f5 : ∀ o, w5.frozen? ⟨w.heap.size + 1, o, none⟩ = false := (fun o => (World.frozen?_of_block (hk5 (w.heap.size + 1) (by omega))).trans ((World.frozen?_of_block H4.out).trans (f1 o))); have hz5 : w4.heap.size + 1 ≤ w5.heap.size := (by have := hg5.size; simp at this; exact this); replace hk5 := Lib.hid hk5; replace ho5 := Lib.hid ho5; replace hg5 := Lib.hid hg5; clear hne)
        | (go_simp; go_at_call 110; refine hcD.out.mono ?_; rintro e w3 ⟨x, y, k3, rfl, hin, hs3, hk3, hg3⟩; have hz3 : wr.heap.size ≤ w3.heap.size := hg3.size; have H3 : w3.heap[w.heap.size + 1]? = wr.heap[w.heap.size + 1]? := hg3.block (w.heap.size + 1) hXl (by intro e; injection e with e; omega); have q3 : w3.cell? ⟨w.heap.size + 1, 0, none⟩ = some (.slice Ao K.length co) := (World.cell?_of_block H3).trans c1; have q3l : w.heap.size + 1 < w3.heap.size := (by omega); replace H3 := Lib.hid H3; replace hg3 := Lib.hid hg3; replace hs3 := Lib.hid hs3; replace hin := Lib.hid hin; dsimp only)
        | (go_simp; go_at_call 71; refine (hcP.out k3 w3 hs3.out (by omega)).mono ?_; rintro e w4 ⟨r4, k4, rfl, _, _, _, hs4, hk4, hg4⟩; have hz4 : w3.heap.size ≤ w4.heap.size := hg4.size; have hG4 : Hid (wr.grownBy w4 (some b)) := grown_tr (show wr.grownBy w3 (some b) from ⟨hg3.out.os, hg3.out.tape, hg3.out.output, hg3.out.size, hg3.out.block⟩) hg4; have H4 : Hid (w4.heap[w.heap.size + 1]? = wr.heap[w.heap.size + 1]?) := (hg4.block (w.heap.size + 1) (by omega) (by intro e; injection e with e; omega)).trans H3.out; have q4 : w4.cell? ⟨w.heap.size + 1, 0, none⟩ = some (.slice Ao K.length co) := (World.cell?_of_block H4.out).trans c1; have q4l : w.heap.size + 1 < w4.heap.size := (by omega); replace hs4 := Lib.hid hs4; clear hg4; dsimp only))
      all_goals
        go_wp2_with fail
        go_roundw
        case rel =>
          have hgg := hg5.out
          refine ⟨t - 1, k4, A5, c5, K ++ [(x, y, decide (1 < r4))], by go_num, by simp; omega, ?_, ?_, ?_, ?_, by omega, by simp; omega, ?_⟩
          · rw [List.length_append]; exact Go.Joins.block_setCell ((hk5.out _ (by omega)).trans (H4.out.trans HO.out)) _
          · exact (Below.heap_setCell _ _ _ _ (by simp)).trans ((hk5.out _ (by omega)).trans ((hG4.out.block w.heap.size (by omega) (by intro e; injection e with e; omega)).trans HX.out))
          · rw [List.length_append, List.flatMap_append]
            exact ownsRow_setCell_below ho5.out (by simp) _
          · exact (hs4.out.keepL fun g hg => hk5.out g (by omega)).set (by omega)
          · refine grown_setO ⟨hgg.os.trans (hG4.out.os.trans hG.os), hgg.tape.trans (hG4.out.tape.trans hG.tape), hgg.output.trans (hG4.out.output.trans hG.output), by omega, fun i hi hn => ?_⟩ (by omega) _ _
            exact (hk5.out i (by omega)).trans ((hG4.out.block i (by omega) hn).trans (hG.block i hi hn))
        case measure => simp [intOf]; omega
    · have ht0 : t = 0 := by omega
      have hKN : K.length = N := by omega
      have hN1 : 1 ≤ N := by omega
      have hN9 : N ≤ 9 := by omega
      have hti : ¬ (0 : Int) < (t : Int) := by omega
      obtain ⟨g, hA, hgB, hgl, hnc, hcell, hfr⟩ := own_at hrow (by omega)
      subst hA
      have e2 := hcell 2 (by omega)
      rw [List.getElem?_eq_getElem (by rw [hrow.1]; omega)] at e2
      have ef := hfr 2
      have hsto := hrow.stored 2 (.bool true)
      generalize (K.flatMap knotC)[2]'(by rw [hrow.1]; omega) = v2 at e2
      have hgX : ¬ g = w.heap.size + 1 := by omega
      have hgX2 : ¬ w.heap.size + 1 = g := by omega
      have r0 : wr.cell? ⟨w.heap.size, 0, none⟩ = some (.slice none 0 0) := by rw [Go.Joins.cell_of_block HX.out]; rfl
      have rf : ∀ o, wr.frozen? ⟨w.heap.size, o, none⟩ = false := Go.Joins.unfrozen_of_block HX.out
      have rl : w.heap.size < wr.heap.size := by omega
      have hgX3 : ¬ g = w.heap.size := by omega
      have hgX4 : ¬ w.heap.size = g := by omega
      have hK0 : (0 : Int) < (K.length : Int) := by omega
      replace hrow := Lib.hid hrow
      replace hsto := Lib.hid hsto
      replace ht0 := Lib.hid ht0
      replace hKN := Lib.hid hKN
      replace hKt := Lib.hid hKt
      clear hcell hfr hnc
      go_wp2_with fail
      have hsame : ∀ i, i < w.heap.size → ((wr.setCell ⟨g, 2, none⟩ (.bool true)).setCell ⟨w.heap.size, 0, none⟩ (.slice (some ⟨g, 0, none⟩) K.length co)).heap[i]? = wr.heap[i]? := fun i hi =>
        (Below.heap_setCell _ _ _ _ (by simp; omega)).trans (Below.heap_setCell _ _ _ _ (by simp; omega))
      refine bodyPost_ret (v := .agg #[.slice (some ⟨g, 0, none⟩) K.length co]) (by simp [results, Try.results111, go_sem, r0]) rfl ⟨_, _, _, rfl, k2, headK K, by rw [headK_len], by have := hKN.out; omega, by have := hKN.out; omega, ?_, ?_, by omega, ?_⟩
      · rw [← headK_cells (by have := hKN.out; omega)]
        exact own_lower (ownsRow_setCell_below hsto.out.1 (by simp) _) (by omega)
      · exact hsr.keepL fun i hi => hsame i (by omega)
      · exact ⟨hG.os, hG.tape, hG.output, by simp; omega, fun i hi hn => (hsame i hi).trans (hG.block i hi hn)⟩
end Go.Proofs.Ytgnjohkfgllhmaa

/- A drawn text. Conditions: as each states. -/
namespace Go.Proofs.Ytgnjohkfgllhmaa
open Go.RowKit
set_option linter.unusedVariables false
set_option maxRecDepth 100000

theorem grown_app {w a b2 : World} {lo e size n b : Nat} {v : Value} {xs : List Value} (h : w.grownBy a (some b)) (ho : a.ownsRow lo e size v n xs) (hg : a.grownBy b2 v.ownBlock) (hlo : w.heap.size ≤ lo) : w.grownBy b2 (some b) :=
  ⟨hg.os.trans h.os, hg.tape.trans h.tape, hg.output.trans h.output, Nat.le_trans h.size hg.size, fun i hi hn => (hg.block i (Nat.lt_of_lt_of_le hi h.size) (fun e => by have := (ho.lt _ e.symm).1; omega)).trans (h.block i hi hn)⟩
theorem grown_allocA {w a : World} {row : Option Nat} (h : w.grownBy a row) (o : Obj) : w.grownBy (a.alloc o) row := grown_tr h (grown_of (Go.Joins.below_alloc1 a o) row)
set_option maxHeartbeats 2000000 in
theorem word_any (b k : Nat) (m : Int) (w : World) (hs : Src0 w b k) (hk : k ≤ 999990000) (hm0 : 2 ≤ m) (hm1 : m ≤ 1000) :
    Calls Try.prog 112 #[.pointer (some ⟨b, 0, none⟩), .int .i64 m] w fun e w' => ∃ (s : ByteArray) (k' : Nat), e = .returned (.string s) ∧ (s.size : Int) < m ∧ Src0 w' b k' ∧ k' ≤ k + 2 + m.toNat ∧ w.grownBy w' (some b) := by
  have hbl := hs.lt
  have hb0 : Below w.heap.size w (w.alloc (.cells #[] 5 (0, 0))) := Go.Joins.below_alloc1 _ _
  have hs0 := Lib.hid (hs.kept hb0 hbl)
  have hrow0 := Lib.hid (World.ownsRow_made (base := w.heap.size) (e := 5) (size := 1) w #[] 0 (Nat.le_refl _) (Nat.zero_le _) rfl)
  have hz0 : (w.alloc (.cells #[] 5 (0, 0))).heap.size = w.heap.size + 1 := by simp
  clear hs
  go_enter Try.func112, Try.ntmps112
  go_wp2_with fail
  generalize w.alloc (.cells #[] 5 (0, 0)) = w0 at *
  refine (pick_any b k m w0 hs0.out (by omega)).mono ?_
  rintro e w1 ⟨r, k1, rfl, hr0, hr1, _, hs1, hk1, hg1⟩
  have hrm := hr1 (by omega)
  obtain ⟨N, hN⟩ : ∃ N : Nat, (N : Int) = r := ⟨r.toNat, by omega⟩
  have hG1 := grown_tr (grown_of hb0 (some b)) hg1
  have hrow1 := Lib.hid (own_grown hrow0.out hg1 hbl)
  have hz1 : w.heap.size + 1 ≤ w1.heap.size := by have := hg1.size; omega
  replace hs1 := Lib.hid hs1
  clear hr1 hg1 hb0 hs0 hrow0
  go_wp2_with fail
  go_loopw [5, 6] (fun out i wr => ∃ (t k2 : Nat) (A : Option Addr) (c : Nat) (ds : List UInt8), i = .int .i64 t ∧ ds.length + t = N ∧ out = .slice A ds.length c ∧ wr.ownsRow w.heap.size 5 1 (.slice A ds.length c) ds.length (byteV ds) ∧ Src0 wr b k2 ∧ k2 + t ≤ k + 2 + N ∧ w.heap.size + 1 ≤ wr.heap.size ∧ w.grownBy wr (some b)) (fun out i wr => (intOf i).toNat)
  case atStart => exact ⟨N, k1, some ⟨w.heap.size, 0, none⟩, 0, [], by rw [hN], by simp, rfl, hrow1.out, hs1.out, by omega, hz1, hG1⟩
  case round =>
    clear hrow1 hs1 hG1 hz1
    obtain ⟨t, k2, A, c, ds, rfl, hKt, rfl, hrow, hsr, hk2, hzr, hG⟩ := hrel
    have hbr := hsr.lt
    by_cases ht : 0 < t
    · have hti : (0 : Int) < (t : Int) := by omega
      have hcN := Lib.hid (nextS_any b k2 wr hsr (by omega))
      replace hrow := Lib.hid hrow
      clear hsr
      go_wp2_with fail
      refine hcN.out.mono ?_
      rintro e w3 ⟨x, rfl, hx0, hx1, hs3, hg3⟩
      have hG3 := grown_tr hG hg3
      have hrow3 := Lib.hid (own_grown hrow.out hg3 hbl)
      have hz3 := hg3.size
      obtain ⟨y, hy⟩ : ∃ y : UInt8, (y.toNat : Int) = x := ⟨UInt8.ofNat x.toNat, by rw [UInt8.toNat_ofNat']; omega⟩
      have hwx : IntKind.u8.wrap x = (y.toNat : Int) := by rw [IntKind.wrap_u8, hy]; omega
      replace hs3 := Lib.hid hs3
      replace hy := Lib.hid hy
      clear hcN hg3
      go_wp2_with (at_builtin; refine wpAppAt rfl (.tmp 15) (.tmp 19) elemU8 rfl (v := .slice A ds.length c) (n := ds.length) (xs := byteV ds) rfl (hrow3.out.alloc _) rfl (src_at (cs := [.int .u8 y.toNat]) rfl (by simp [Value.oneCell']) rfl) (by omega) (by omega) (by simp; omega) (ds.length + 1) rfl ?_; intro A5 c5 w5 ho5 hg5 _; replace ho5 := Lib.hid ho5; replace hg5 := Lib.hid hg5)
      go_roundw
      case rel =>
        refine ⟨t - 1, k2 + 1, A5, c5, ds ++ [y], by go_num, by simp; omega, by simp, ?_, ?_, by omega, by have := hg5.out.size; simp at this; omega, grown_app (grown_allocA hG3 _) (hrow3.out.alloc _) hg5.out (Nat.le_refl _)⟩
        · rw [List.length_append, byteV_append]; exact ho5.out
        · exact hs3.out.keepL fun i hi => (hg5.out.block i (by simp; omega) (fun e => by have := (hrow3.out.lt _ e.symm).1; omega)).trans (Below.heap_alloc _ _ _ (by omega))
      case measure => simp [intOf]; omega
    · have ht0 : t = 0 := by omega
      have hti : ¬ (0 : Int) < (t : Int) := by omega
      have kr := run_bytes_str (P := Try.prog) (src := 22) (dst := 9) (w := wr) (c := c) Try.underlying22 Try.underlying5 Try.underlying9 (src_own hrow (byteV_one _)) (by
        intro hA; subst hA
        rcases Nat.eq_zero_or_pos ds.length with h0 | h0
        · exact h0
        · obtain ⟨g, hg, _⟩ := own_at hrow (by omega)
          cases hg)
      replace hrow := Lib.hid hrow
      replace ht0 := Lib.hid ht0
      replace hKt := Lib.hid hKt
      go_wp2_with fail
      go_ret
      exact ⟨_, rfl, by have := hKt.out; show ((ds.length : Nat) : Int) < m; omega, k2, hsr, by have := hKt.out; omega, hG⟩
end Go.Proofs.Ytgnjohkfgllhmaa

/- A glyph in the making: what each step does to it. Conditions: as each states. -/
namespace Go.Proofs.Ytgnjohkfgllhmaa
open Go.RowKit
set_option linter.unusedVariables false
set_option maxRecDepth 100000

structure DrOk (d : Gl) : Prop where
  nm : d.name.size ≤ 12
  ol : d.out.length ≤ 3
  ok : ∀ K ∈ d.out, K.length ≤ 9
  pl : d.parts.length ≤ 3
  al : d.anchors.length ≤ 3
  as' : ∀ a ∈ d.anchors, a.1.size ≤ 12
  hl : d.hints.size ≤ 8
  pm : ∀ p ∈ d.parts, InSq 600 p.2
  am : ∀ a ∈ d.anchors, InSq 600 a.2
def nilH : GlH := ⟨⟨none, 0, 0⟩, ⟨none, 0, 0⟩, ⟨none, 0, 0⟩⟩
/-- a glyph in the making: its box is Y -/
structure DrG (w : World) (Y b : Nat) (W : World) (d : Gl) (h : GlH) (k : Nat) : Prop where
  g : w.grownBy W (some b)
  s : Src0 W b k
  bl : b < w.heap.size
  lo : w.heap.size < Y
  hi : Y < W.heap.size
  box : W.heap[Y]? = some (.cells (glC d h).toArray 39 (0, 0))
  res : W.heap[w.heap.size]? = some (.cells #[.string ⟨#[]⟩, .int .i64 0, .int .i64 0, .slice none 0 0, .slice none 0 0, .slice none 0 0, .string ⟨#[]⟩] 39 (0, 0))
  o : ∃ ys, OutTo W (Y + 1) h.out.A h.out.n h.out.c ys d.out
  on : d.out.length = h.out.n
  p : W.ownsRow (Y + 1) 32 3 (.slice h.parts.A h.parts.n h.parts.c) h.parts.n (d.parts.flatMap partC)
  pn : d.parts.length = h.parts.n
  a : W.ownsRow (Y + 1) 111 3 (.slice h.anchors.A h.anchors.n h.anchors.c) h.anchors.n (d.anchors.flatMap anchC)
  an : d.anchors.length = h.anchors.n
  ok : DrOk d
theorem outTo_grown {W W' : World} {lo k co b : Nat} {A : Option Addr} {ys : List Value} {Ls : List (List Knot)} (h : OutTo W lo A k co ys Ls) (hg : W.grownBy W' (some b)) (hb : b < lo) : OutTo W' lo A k co ys Ls :=
  ⟨own_grown h.1 hg hb, fun j K hj hK => by obtain ⟨Aj, cj, h1, h2⟩ := h.2.1 j K hj hK; exact ⟨Aj, cj, h1, own_grown h2 hg hb⟩, h.2.2⟩
theorem DrG.grown {w W W' : World} {Y b k k' : Nat} {d : Gl} {h : GlH} (r : DrG w Y b W d h k) (hg : W.grownBy W' (some b)) (hs : Src0 W' b k') : DrG w Y b W' d h k' := by
  have hbl := r.bl
  have hlo := r.lo
  have hhi := r.hi
  obtain ⟨ys, ho⟩ := r.o
  exact ⟨grown_tr r.g hg, hs, hbl, hlo, Nat.lt_of_lt_of_le hhi hg.size, (hg.block Y hhi (by intro e; injection e with e; omega)).trans r.box, (hg.block _ (by omega) (by intro e; injection e with e; omega)).trans r.res, ⟨ys, outTo_grown ho hg (by omega)⟩, r.on, own_grown r.p hg (by omega), r.pn, own_grown r.a hg (by omega), r.an, r.ok⟩
theorem DrG.below {w W W' : World} {Y b k : Nat} {d : Gl} {h : GlH} (r : DrG w Y b W d h k) (hb : Below W.heap.size W W') : DrG w Y b W' d h k :=
  r.grown (grown_of hb _) (r.s.kept hb r.s.lt)
theorem own_keep {W W' : World} {lo e size n lo2 e2 size2 n2 : Nat} {v v2 : Value} {xs xs2 : List Value} (h : W.ownsRow lo e size v n xs) (h2 : W.ownsRow lo2 e2 size2 v2 n2 xs2) (he : e ≠ e2) (hg : W.grownBy W' v2.ownBlock) : W'.ownsRow lo e size v n xs :=
  own_same h fun g hg' => hg.block g (h.lt g hg').2 fun e => own_ne_kind h h2 he hg' e.symm
theorem out_keep {W W' : World} {lo k co lo2 e2 size2 n2 : Nat} {A : Option Addr} {ys : List Value} {Ls : List (List Knot)} {v2 : Value} {xs2 : List Value} (h : OutTo W lo A k co ys Ls) (h2 : W.ownsRow lo2 e2 size2 v2 n2 xs2) (he : 107 ≠ e2) (he2 : 167 ≠ e2) (hg : W.grownBy W' v2.ownBlock) : OutTo W' lo A k co ys Ls :=
  ⟨own_keep h.1 h2 he hg, fun j K hj hK => by obtain ⟨Aj, cj, k1, k2⟩ := h.2.1 j K hj hK; exact ⟨Aj, cj, k1, own_keep k2 h2 he2 hg⟩, h.2.2⟩
/-- what an append to a row above Y and a store into Y leave -/
theorem DrG.base {w W W' : World} {Y b k lo e size n : Nat} {d : Gl} {h : GlH} {v : Value} {xs : List Value} (r : DrG w Y b W d h k) (hr : W.ownsRow lo e size v n xs) (hlo : Y < lo) (hg : W.grownBy W' v.ownBlock) (i : Nat) (u : Value) :
    w.grownBy (W'.setCell ⟨Y, i, none⟩ u) (some b) ∧ Src0 (W'.setCell ⟨Y, i, none⟩ u) b k ∧ Y < (W'.setCell ⟨Y, i, none⟩ u).heap.size ∧ W'.heap[Y]? = W.heap[Y]? ∧ (W'.setCell ⟨Y, i, none⟩ u).heap[w.heap.size]? = W.heap[w.heap.size]? := by
  have h1 := r.bl
  have h2 := r.lo
  have h3 := r.hi
  have hne : ∀ g, g ≤ Y → v.ownBlock ≠ some g := fun g hg e => by have := (hr.lt g e).1; omega
  have hz := hg.size
  refine ⟨grown_setO (grown_app r.g hr hg (by omega)) (by omega) _ _, (r.s.keepL fun g hgb => hg.block g (by omega) (fun e => hne g (by omega) e.symm)).set (by omega), by simp; omega, hg.block Y h3 (fun e => hne Y (Nat.le_refl _) e.symm), ?_⟩
  exact (Below.heap_setCell _ _ _ _ (by simp only; omega)).trans (hg.block _ (by omega) (fun e => hne _ (by omega) e.symm))
theorem DrG.part {w W W' : World} {Y b k c' : Nat} {A' : Option Addr} {d : Gl} {h : GlH} {p : Part} (r : DrG w Y b W d h k) (hg : W.grownBy W' (Value.slice h.parts.A h.parts.n h.parts.c).ownBlock) (ho : W'.ownsRow (Y + 1) 32 3 (.slice A' (h.parts.n + 1) c') (h.parts.n + 1) (d.parts.flatMap partC ++ partC p)) (hle : d.parts.length < 3) (hpm : InSq 600 p.2) :
    DrG w Y b (W'.setCell ⟨Y, 4, none⟩ (.slice A' (h.parts.n + 1) c')) ⟨d.name, d.code, d.adv, d.out, d.parts ++ [p], d.anchors, d.hints⟩ ⟨h.out, ⟨A', h.parts.n + 1, c'⟩, h.anchors⟩ k := by
  obtain ⟨b1, b2, b3, b4, b5⟩ := r.base r.p (Nat.lt_succ_self _) hg 4 (.slice A' (h.parts.n + 1) c')
  obtain ⟨ys, hys⟩ := r.o
  have hy : Y < Y + 1 := Nat.lt_succ_self _
  refine ⟨b1, b2, r.bl, r.lo, b3, Go.Joins.block_setCell (b4.trans r.box) _, b5.trans r.res, ⟨ys, (out_keep hys r.p (by decide) (by decide) hg).set hy _⟩, r.on, ?_, by simp [r.pn], ownsRow_setCell_below (own_keep r.a r.p (by decide) hg) hy _, r.an, ⟨r.ok.nm, r.ok.ol, r.ok.ok, by simp; omega, r.ok.al, r.ok.as', r.ok.hl, fun q hq => (List.mem_append.1 hq).elim (r.ok.pm q) (fun hq => by rw [List.mem_singleton] at hq; subst hq; exact hpm), r.ok.am⟩⟩
  show (W'.setCell _ _).ownsRow _ _ _ _ _ ((d.parts ++ [p]).flatMap partC)
  rw [List.flatMap_append]
  exact ownsRow_setCell_below (by simpa using ho) hy _
theorem DrG.anch {w W W' : World} {Y b k c' : Nat} {A' : Option Addr} {d : Gl} {h : GlH} {p : Anch} (r : DrG w Y b W d h k) (hg : W.grownBy W' (Value.slice h.anchors.A h.anchors.n h.anchors.c).ownBlock) (ho : W'.ownsRow (Y + 1) 111 3 (.slice A' (h.anchors.n + 1) c') (h.anchors.n + 1) (d.anchors.flatMap anchC ++ anchC p)) (hle : d.anchors.length < 3) (hp : p.1.size ≤ 12) (hpa : InSq 600 p.2) :
    DrG w Y b (W'.setCell ⟨Y, 5, none⟩ (.slice A' (h.anchors.n + 1) c')) ⟨d.name, d.code, d.adv, d.out, d.parts, d.anchors ++ [p], d.hints⟩ ⟨h.out, h.parts, ⟨A', h.anchors.n + 1, c'⟩⟩ k := by
  obtain ⟨b1, b2, b3, b4, b5⟩ := r.base r.a (Nat.lt_succ_self _) hg 5 (.slice A' (h.anchors.n + 1) c')
  obtain ⟨ys, hys⟩ := r.o
  have hy : Y < Y + 1 := Nat.lt_succ_self _
  refine ⟨b1, b2, r.bl, r.lo, b3, Go.Joins.block_setCell (b4.trans r.box) _, b5.trans r.res, ⟨ys, (out_keep hys r.a (by decide) (by decide) hg).set hy _⟩, r.on, ownsRow_setCell_below (own_keep r.p r.a (by decide) hg) hy _, r.pn, ?_, by simp [r.an], ⟨r.ok.nm, r.ok.ol, r.ok.ok, r.ok.pl, by simp; omega, fun a ha => ?_, r.ok.hl, r.ok.pm, fun q hq => (List.mem_append.1 hq).elim (r.ok.am q) (fun hq => by rw [List.mem_singleton] at hq; subst hq; exact hpa)⟩⟩
  · show (W'.setCell _ _).ownsRow _ _ _ _ _ ((d.anchors ++ [p]).flatMap anchC)
    rw [List.flatMap_append]
    exact ownsRow_setCell_below (by simpa using ho) hy _
  · rcases List.mem_append.1 ha with ha | ha
    · exact r.ok.as' a ha
    · rw [List.mem_singleton] at ha; subst ha; exact hp
theorem OutTo.nextS {w w1 w2 : World} {lo B k co c2 cc : Nat} {Ao A2 A3 : Option Addr} {ys : List Value} {Ls : List (List Knot)} {K : List Knot} (h : OutTo w lo Ao k co ys Ls) (hl : Ls.length = k)
    (hs : SameB lo w.heap.size w w1) (hz : w.heap.size ≤ w1.heap.size) (hr : w1.ownsRow B 167 3 (.slice A2 K.length c2) K.length (K.flatMap knotC)) (hB : w.heap.size ≤ B) (hlo : lo ≤ w.heap.size)
    (ho : w2.ownsRow lo 107 1 (.slice A3 (k + 1) cc) (k + 1) (ys ++ [.slice A2 K.length c2])) (hg : w1.grownBy w2 (Value.slice Ao k co).ownBlock) : OutTo w2 lo A3 (k + 1) cc (ys ++ [.slice A2 K.length c2]) (Ls ++ [K]) := by
  obtain ⟨h1, h2, h3⟩ := h
  have up : ∀ {e size n : Nat} {v : Value} {xs : List Value}, w.ownsRow lo e size v n xs → w1.ownsRow lo e size v n xs := fun hv => own_same hv fun g hg => hs g (hv.lt g hg).1 (hv.lt g hg).2
  have h1' := up h1
  have hyl := h1.1
  rw [Nat.mul_one] at hyl
  have hne : ∀ {g : Nat} {v : Value} {n : Nat} {xs : List Value} {B' : Nat}, w1.ownsRow B' 167 3 v n xs → v.ownBlock = some g → w2.heap[g]? = w1.heap[g]? := fun {g v n xs B'} hv hg' =>
    hg.block g (hv.lt g hg').2 fun e => own_ne_kind hv h1' (by decide) hg' e.symm
  refine ⟨ho, fun j K' hj hK' => ?_, fun i j u v hij hu hv => ?_⟩
  · by_cases hjk : j = k
    · subst hjk
      rw [List.getElem?_append_right (by omega), hl, Nat.sub_self] at hK'
      simp at hK'
      subst hK'
      exact ⟨A2, c2, by rw [List.getElem?_append_right (by omega), hyl]; simp, own_lower (own_same hr fun g hg' => hne hr hg') (by omega)⟩
    · rw [List.getElem?_append_left (by omega)] at hK'
      obtain ⟨Aj, cj, h4, h5⟩ := h2 j K' (by omega) hK'
      exact ⟨Aj, cj, by rw [List.getElem?_append_left (by omega)]; exact h4, own_same (up h5) fun g hg' => hne (up h5) hg'⟩
  · have hold : ∀ (j : Nat) (v : Value), j < k → ys[j]? = some v → ∀ g, v.ownBlock = some g → g < w.heap.size := fun j v hj hv g hg' => by
      obtain ⟨Aj, cj, h4, h5⟩ := h2 j _ hj (List.getElem?_eq_getElem (by omega))
      rw [hv] at h4
      injection h4 with h4
      subst h4
      exact (h5.lt g hg').2
    have hil := (List.getElem?_eq_some_iff.1 hu).1
    have hjl := (List.getElem?_eq_some_iff.1 hv).1
    simp at hil hjl
    by_cases hik : i < k
    · rw [List.getElem?_append_left (by omega)] at hu
      by_cases hjk : j < k
      · rw [List.getElem?_append_left (by omega)] at hv
        exact h3 i j u v hij hu hv
      · obtain rfl : j = k := by omega
        rw [List.getElem?_append_right (by omega), hyl] at hv
        simp at hv
        subst hv
        intro g hgu hgv
        have := hold i u hik hu g hgu
        have := (hr.lt g hgv).1
        omega
    · obtain rfl : i = k := by omega
      rw [List.getElem?_append_right (by omega), hyl] at hu
      rw [List.getElem?_append_left (by omega)] at hv
      simp at hu
      subst hu
      intro g hgu hgv
      have := hold j v (by omega) hv g hgv
      have := (hr.lt g hgu).1
      omega
theorem DrG.loop {w W W1 W' : World} {Y b k k' B c2 c' : Nat} {A2 A' : Option Addr} {d : Gl} {h : GlH} {K : List Knot} {ys : List Value} (r : DrG w Y b W d h k) (hys : OutTo W (Y + 1) h.out.A h.out.n h.out.c ys d.out) (hg1 : W.grownBy W1 (some b)) (hs1 : Src0 W1 b k') (hr : W1.ownsRow B 167 3 (.slice A2 K.length c2) K.length (K.flatMap knotC)) (hB : W.heap.size ≤ B)
    (hg : W1.grownBy W' (Value.slice h.out.A h.out.n h.out.c).ownBlock) (ho : W'.ownsRow (Y + 1) 107 1 (.slice A' (h.out.n + 1) c') (h.out.n + 1) (ys ++ [.slice A2 K.length c2])) (hle : d.out.length < 3) (hK : K.length ≤ 9) :
    DrG w Y b (W'.setCell ⟨Y, 3, none⟩ (.slice A' (h.out.n + 1) c')) ⟨d.name, d.code, d.adv, d.out ++ [K], d.parts, d.anchors, d.hints⟩ ⟨⟨A', h.out.n + 1, c'⟩, h.parts, h.anchors⟩ k' := by
  have r1 := r.grown hg1 hs1
  have hro := own_grown hys.1 hg1 (show b < Y + 1 by have := r.bl; have := r.lo; omega)
  obtain ⟨b1, b2, b3, b4, b5⟩ := r1.base hro (Nat.lt_succ_self _) hg 3 (.slice A' (h.out.n + 1) c')
  have hy : Y < Y + 1 := Nat.lt_succ_self _
  have hbl := r.bl
  have hlo := r.lo
  have hhi := r.hi
  have hnx := OutTo.nextS hys r.on (fun g h1 h2 => hg1.block g h2 (by intro e; injection e with e; omega)) hg1.size hr hB (by omega) ho hg
  refine ⟨b1, b2, hbl, hlo, b3, Go.Joins.block_setCell (b4.trans r1.box) _, b5.trans r1.res, ⟨_, hnx.set hy _⟩, by simp [r.on], ownsRow_setCell_below (own_keep r1.p hro (by decide) hg) hy _, r.pn, ownsRow_setCell_below (own_keep r1.a hro (by decide) hg) hy _, r.an, ⟨r.ok.nm, by simp; omega, fun K' hK' => ?_, r.ok.pl, r.ok.al, r.ok.as', r.ok.hl, r.ok.pm, r.ok.am⟩⟩
  rcases List.mem_append.1 hK' with h1 | h1
  · exact r.ok.ok K' h1
  · rw [List.mem_singleton] at h1; subst h1; exact hK
/-- a store into the glyph's own cells -/
theorem DrG.cell {w W : World} {Y b k i : Nat} {d d' : Gl} {h : GlH} {u : Value} (r : DrG w Y b W d h k) (hc : (glC d h).toArray.set! i u = (glC d' h).toArray) (ho : d'.out = d.out) (hp : d'.parts = d.parts) (ha : d'.anchors = d.anchors) (hok : DrOk d') : DrG w Y b (W.setCell ⟨Y, i, none⟩ u) d' h k := by
  have hbl := r.bl
  have hlo := r.lo
  have hhi := r.hi
  obtain ⟨ys, hys⟩ := r.o
  have hy : Y < Y + 1 := Nat.lt_succ_self _
  refine ⟨grown_setO r.g (by omega) _ _, r.s.set (by omega), hbl, hlo, by simp; exact hhi, ?_, (Below.heap_setCell _ _ _ _ (by simp only; omega)).trans r.res, ⟨ys, by rw [ho]; exact hys.set hy _⟩, by rw [ho]; exact r.on, by rw [hp]; exact ownsRow_setCell_below r.p hy _, by rw [hp]; exact r.pn, by rw [ha]; exact ownsRow_setCell_below r.a hy _, by rw [ha]; exact r.an, hok⟩
  have := Go.Joins.block_setCell r.box (i := i) u
  rw [← hc]
  exact this
theorem DrG.cells {w W : World} {Y b k : Nat} {d : Gl} {h : GlH} (r : DrG w Y b W d h k) {i : Nat} {u : Value} (hu : (glC d h)[i]? = some u) : W.cell? ⟨Y, i, none⟩ = some u := by
  rw [Go.Joins.cell_of_block r.box]
  simpa using hu
theorem DrG.glx {w W : World} {Y b k : Nat} {d : Gl} {h : GlH} (r : DrG w Y b W d h k) : GlX W (Y + 1) W.heap.size d h := by
  obtain ⟨ys, h1, h2, h3⟩ := r.o
  exact ⟨OutOwn.in ⟨ys, r.on, h1, fun j K hj => h2 j K (by have := (List.getElem?_eq_some_iff.1 hj).1; have := r.on; omega) hj, h3⟩, r.p, r.pn, fun g hg => (r.p.lt g hg).2, r.a, r.an, fun g hg => (r.a.lt g hg).2, own_nc r.a⟩
end Go.Proofs.Ytgnjohkfgllhmaa

/- A drawn glyph. Conditions: as each states. -/
namespace Go.Proofs.Ytgnjohkfgllhmaa
open Go.RowKit
set_option linter.unusedVariables false
set_option maxRecDepth 100000

theorem run_char (W : World) (B : Nat) (y : UInt8) (h : W.cell? ⟨B, 0, none⟩ = some (.int .u8 y.toNat)) : (convert 22 9 (.slice (some ⟨B, 0, none⟩) 1 1)).run Try.prog W = .ok (.string ⟨#[y]⟩) W :=
  run_bytes_str (P := Try.prog) (src := 22) (dst := 9) (w := W) (c := 1) (ds := [y]) Try.underlying22 Try.underlying5 Try.underlying9 ⟨rfl, byteV_one _, fun _ => ⟨_, rfl, fun j u hj => by
    match j, hj with
    | 0, hj => simp [byteV] at hj; subst hj; simpa [Addr.add] using h⟩⟩ (by intro h; cases h)

theorem set_all7 {w : World} {Y : Nat} {t : TypeId} {a0 a1 a2 a3 a4 a5 a6 : Value} (h : w.heap[Y]? = some (.cells #[a0, a1, a2, a3, a4, a5, a6] t (0, 0))) (v0 v1 v2 v3 v4 v5 v6 : Value) :
    (((((((w.setCell ⟨Y, 0, none⟩ v0).setCell ⟨Y, 1, none⟩ v1).setCell ⟨Y, 2, none⟩ v2).setCell ⟨Y, 3, none⟩ v3).setCell ⟨Y, 4, none⟩ v4).setCell ⟨Y, 5, none⟩ v5).setCell ⟨Y, 6, none⟩ v6).heap[Y]? = some (.cells #[v0, v1, v2, v3, v4, v5, v6] t (0, 0)) := by
  have h0 : (w.setCell ⟨Y, 0, none⟩ v0).heap[Y]? = some (.cells #[v0, a1, a2, a3, a4, a5, a6] t (0, 0)) := Go.Joins.block_setCell h v0
  generalize w.setCell ⟨Y, 0, none⟩ v0 = w0 at *
  have h1 : (w0.setCell ⟨Y, 1, none⟩ v1).heap[Y]? = some (.cells #[v0, v1, a2, a3, a4, a5, a6] t (0, 0)) := Go.Joins.block_setCell h0 v1
  generalize w0.setCell ⟨Y, 1, none⟩ v1 = w1 at *
  have h2 : (w1.setCell ⟨Y, 2, none⟩ v2).heap[Y]? = some (.cells #[v0, v1, v2, a3, a4, a5, a6] t (0, 0)) := Go.Joins.block_setCell h1 v2
  generalize w1.setCell ⟨Y, 2, none⟩ v2 = w2 at *
  have h3 : (w2.setCell ⟨Y, 3, none⟩ v3).heap[Y]? = some (.cells #[v0, v1, v2, v3, a4, a5, a6] t (0, 0)) := Go.Joins.block_setCell h2 v3
  generalize w2.setCell ⟨Y, 3, none⟩ v3 = w3 at *
  have h4 : (w3.setCell ⟨Y, 4, none⟩ v4).heap[Y]? = some (.cells #[v0, v1, v2, v3, v4, a5, a6] t (0, 0)) := Go.Joins.block_setCell h3 v4
  generalize w3.setCell ⟨Y, 4, none⟩ v4 = w4 at *
  have h5 : (w4.setCell ⟨Y, 5, none⟩ v5).heap[Y]? = some (.cells #[v0, v1, v2, v3, v4, v5, a6] t (0, 0)) := Go.Joins.block_setCell h4 v5
  generalize w4.setCell ⟨Y, 5, none⟩ v5 = w5 at *
  exact Go.Joins.block_setCell h5 v6

set_option maxHeartbeats 16000000 in
theorem l17DrawGlyph_any (b k q : Nat) (w : World) (hs : Src0 w b k) (hk : k ≤ 999900000) (hq : q ≤ 25) :
    Calls Try.prog 72 #[.pointer (some ⟨b, 0, none⟩), .int .i64 q] w fun e w' => ∃ (d : Gl) (h : GlH) (k' : Nat), e = .returned (glV d h) ∧ GlX w' w.heap.size w'.heap.size d h ∧ DrOk d ∧ Src0 w' b k' ∧ k' ≤ k + 1000 ∧ w.grownBy w' (some b) := by
  have hbl := hs.lt
  have hb0 : Below w.heap.size w (w.alloc (.cells #[.string ⟨#[]⟩, .int .i64 0, .int .i64 0, .slice none 0 0, .slice none 0 0, .slice none 0 0, .string ⟨#[]⟩] 39 (0, 0))) := Go.Joins.below_alloc1 _ _
  have hs0 := hs.kept hb0 hbl
  have HR0 := Lib.hid (heap_alloc_new w (.cells #[.string ⟨#[]⟩, .int .i64 0, .int .i64 0, .slice none 0 0, .slice none 0 0, .slice none 0 0, .string ⟨#[]⟩] 39 (0, 0)))
  have hz0 : (w.alloc (.cells #[.string ⟨#[]⟩, .int .i64 0, .int .i64 0, .slice none 0 0, .slice none 0 0, .slice none 0 0, .string ⟨#[]⟩] 39 (0, 0))).heap.size = w.heap.size + 1 := by simp
  clear hs
  obtain ⟨y, hy⟩ : ∃ y : UInt8, (y.toNat : Int) = 97 + (q : Int) := ⟨UInt8.ofNat (97 + q), by rw [UInt8.toNat_ofNat']; omega⟩
  have hw97 : IntKind.i64.wrap (97 + (q : Int)) = 97 + (q : Int) := IntWalk.i64_in _ (by omega)
  have hrem : (q : Int).tmod 26 = (q : Int) := by rw [Int.tmod_eq_emod_of_nonneg (by omega)]; omega
  have hwy : IntKind.u8.wrap (97 + (q : Int)) = (y.toNat : Int) := by rw [IntKind.wrap_u8, hy]; omega
  have hchar := Lib.hid (fun W B h => run_char W B y h)
  replace hy := Lib.hid hy
  go_enter Try.func72, Try.ntmps72
  go_upto_region 2 with fail
  go_cut [5] (fun s5 wx => ∃ (Y k1 : Nat) (d : Gl), s5 = .pointer (some ⟨Y, 0, none⟩) ∧ DrG w Y b wx d nilH k1 ∧ k1 ≤ k + 2 ∧ d.out = [] ∧ d.parts = [] ∧ d.anchors = [])
  case first =>
    generalize w.alloc (.cells #[.string ⟨#[]⟩, .int .i64 0, .int .i64 0, .slice none 0 0, .slice none 0 0, .slice none 0 0, .string ⟨#[]⟩] 39 (0, 0)) = w0 at *
    have hz0l : w0.heap.size ≤ w.heap.size + 1 := by omega
    have hz0g : w.heap.size + 1 ≤ w0.heap.size := by omega
    clear hz0
    have hA1 : ∀ W : World, (convert 22 9 (.slice (some ⟨W.heap.size, 0, none⟩) 1 1)).run Try.prog (W.alloc (.cells #[.int .u8 y.toNat] 5 (0, 0))) = .ok (.string ⟨#[y]⟩) (W.alloc (.cells #[.int .u8 y.toNat] 5 (0, 0))) := fun W => hchar.out _ _ (by rw [Go.Joins.cell_of_block (heap_alloc_new W _)]; rfl)
    have hA2 : ∀ W : World, (convert 22 9 (.slice (some ⟨W.heap.size, 0, none⟩) 1 1)).run Try.prog (W.alloc (.cells #[.int .u8 y.toNat] 5 (0, 0))).drew = .ok (.string ⟨#[y]⟩) (W.alloc (.cells #[.int .u8 y.toNat] 5 (0, 0))).drew := fun W => hchar.out _ _ (by show (W.alloc _).cell? _ = _; rw [Go.Joins.cell_of_block (heap_alloc_new W _)]; rfl)
    have hA3 : ∀ (W : World) (o : Obj), (convert 22 9 (.slice (some ⟨W.heap.size, 0, none⟩) 1 1)).run Try.prog ((W.alloc (.cells #[.int .u8 y.toNat] 5 (0, 0))).alloc o) = .ok (.string ⟨#[y]⟩) ((W.alloc (.cells #[.int .u8 y.toNat] 5 (0, 0))).alloc o) := fun W o => hchar.out _ _ (Lib.cell?_alloc_some _ (by rw [Go.Joins.cell_of_block (heap_alloc_new W _)]; rfl))
    have hA4 : ∀ (W : World) (o : Obj), (convert 22 9 (.slice (some ⟨W.heap.size, 0, none⟩) 1 1)).run Try.prog ((W.alloc (.cells #[.int .u8 y.toNat] 5 (0, 0))).alloc o).drew = .ok (.string ⟨#[y]⟩) ((W.alloc (.cells #[.int .u8 y.toNat] 5 (0, 0))).alloc o).drew := fun W o => hchar.out _ _ (by show ((W.alloc _).alloc o).cell? _ = _; exact Lib.cell?_alloc_some _ (by rw [Go.Joins.cell_of_block (heap_alloc_new W _)]; rfl))
    have hA5 : ∀ (W : World) (o : Obj), (convert 22 9 (.slice (some ⟨W.heap.size + 1, 0, none⟩) 1 1)).run Try.prog ((W.alloc o).alloc (.cells #[.int .u8 y.toNat] 5 (0, 0))) = .ok (.string ⟨#[y]⟩) ((W.alloc o).alloc (.cells #[.int .u8 y.toNat] 5 (0, 0))) := fun W o => hchar.out _ _ (by rw [Go.Joins.cell_of_block (heap_new2 W _ _).2]; rfl)
    have hA6 : ∀ (W : World) (o : Obj), (convert 22 9 (.slice (some ⟨W.heap.size + 1, 0, none⟩) 1 1)).run Try.prog ((W.alloc o).alloc (.cells #[.int .u8 y.toNat] 5 (0, 0))).drew = .ok (.string ⟨#[y]⟩) ((W.alloc o).alloc (.cells #[.int .u8 y.toNat] 5 (0, 0))).drew := fun W o => hchar.out _ _ (by show ((W.alloc o).alloc _).cell? _ = _; rw [Go.Joins.cell_of_block (heap_new2 W _ _).2]; rfl)
    have hcP := Lib.hid (fun (W : World) (h : Src0 W b k) => pick_any b k 10 W h (by omega))
    have hbw0 : b < w0.heap.size := by omega
    go_region_law (go_simp; go_at_call 71; refine (hcP.out _ (by refine Src0.keepL hs0 (fun g hg => ?_); first | rfl | exact Below.heap_alloc _ _ _ (by omega) | exact (Below.heap_alloc _ _ _ (by simp; omega)).trans (Below.heap_alloc _ _ _ (by omega)))).mono ?_; rintro e w4 ⟨r4, k4, rfl, hr40, hr41, _, hs4, hk4, hg4⟩; (first | (refine have_then (w4.heap[w0.heap.size]? = some (.cells #[.string ⟨#[]⟩, .int .i64 0, .int .i64 0, .slice none 0 0, .slice none 0 0, .slice none 0 0, .string ⟨#[]⟩] 39 (0, 0))) ?_ ?_; (refine (hg4.block (w0.heap.size) (by first | (simp; done) | (simp; omega)) (by intro e; injection e with e; omega)).trans ?_; (first | exact heap_alloc_new w0 _ | exact (Below.heap_alloc _ _ _ (by first | (simp; done) | (simp; omega))).trans (heap_alloc_new w0 _) | exact (heap_new2 w0 _ _).2)); intro A; have A0 : w4.cell? ⟨w0.heap.size, 0, none⟩ = some (.string ⟨#[]⟩) := (by rw [Go.Joins.cell_of_block A]; rfl); have A1 : w4.cell? ⟨w0.heap.size, 1, none⟩ = some (.int .i64 0) := (by rw [Go.Joins.cell_of_block A]; rfl); have A2 : w4.cell? ⟨w0.heap.size, 2, none⟩ = some (.int .i64 0) := (by rw [Go.Joins.cell_of_block A]; rfl); have A3 : w4.cell? ⟨w0.heap.size, 3, none⟩ = some (.slice none 0 0) := (by rw [Go.Joins.cell_of_block A]; rfl); have A4 : w4.cell? ⟨w0.heap.size, 4, none⟩ = some (.slice none 0 0) := (by rw [Go.Joins.cell_of_block A]; rfl); have A5 : w4.cell? ⟨w0.heap.size, 5, none⟩ = some (.slice none 0 0) := (by rw [Go.Joins.cell_of_block A]; rfl); have A6 : w4.cell? ⟨w0.heap.size, 6, none⟩ = some (.string ⟨#[]⟩) := (by rw [Go.Joins.cell_of_block A]; rfl); have Af : ∀ o, w4.frozen? ⟨w0.heap.size, o, none⟩ = false := Go.Joins.unfrozen_of_block A; have Al : w0.heap.size < w4.heap.size := (by have := hg4.size; simp at this; omega)) | skip); (first | (refine have_then (w4.heap[w0.heap.size + 1]? = some (.cells #[.string ⟨#[]⟩, .int .i64 0, .int .i64 0, .slice none 0 0, .slice none 0 0, .slice none 0 0, .string ⟨#[]⟩] 39 (0, 0))) ?_ ?_; (refine (hg4.block (w0.heap.size + 1) (by first | (simp; done) | (simp; omega)) (by intro e; injection e with e; omega)).trans ?_; (first | exact heap_alloc_new w0 _ | exact (Below.heap_alloc _ _ _ (by first | (simp; done) | (simp; omega))).trans (heap_alloc_new w0 _) | exact (heap_new2 w0 _ _).2)); intro B; have B0 : w4.cell? ⟨w0.heap.size + 1, 0, none⟩ = some (.string ⟨#[]⟩) := (by rw [Go.Joins.cell_of_block B]; rfl); have B1 : w4.cell? ⟨w0.heap.size + 1, 1, none⟩ = some (.int .i64 0) := (by rw [Go.Joins.cell_of_block B]; rfl); have B2 : w4.cell? ⟨w0.heap.size + 1, 2, none⟩ = some (.int .i64 0) := (by rw [Go.Joins.cell_of_block B]; rfl); have B3 : w4.cell? ⟨w0.heap.size + 1, 3, none⟩ = some (.slice none 0 0) := (by rw [Go.Joins.cell_of_block B]; rfl); have B4 : w4.cell? ⟨w0.heap.size + 1, 4, none⟩ = some (.slice none 0 0) := (by rw [Go.Joins.cell_of_block B]; rfl); have B5 : w4.cell? ⟨w0.heap.size + 1, 5, none⟩ = some (.slice none 0 0) := (by rw [Go.Joins.cell_of_block B]; rfl); have B6 : w4.cell? ⟨w0.heap.size + 1, 6, none⟩ = some (.string ⟨#[]⟩) := (by rw [Go.Joins.cell_of_block B]; rfl); have Bf : ∀ o, w4.frozen? ⟨w0.heap.size + 1, o, none⟩ = false := Go.Joins.unfrozen_of_block B; have Bl : w0.heap.size + 1 < w4.heap.size := (by have := hg4.size; simp at this; omega)) | skip); (first | (refine have_then (w4.heap[w0.heap.size]? = some (.cells #[.int .u8 y.toNat] 5 (0, 0))) ?_ ?_; (refine (hg4.block (w0.heap.size) (by first | (simp; done) | (simp; omega)) (by intro e; injection e with e; omega)).trans ?_; (first | exact heap_alloc_new w0 _ | exact (Below.heap_alloc _ _ _ (by first | (simp; done) | (simp; omega))).trans (heap_alloc_new w0 _) | exact (heap_new2 w0 _ _).2)); intro C; have Ck := hchar.out w4 (w0.heap.size) (by rw [Go.Joins.cell_of_block C]; rfl); have Co := (fun o => hchar.out (w4.alloc o) (w0.heap.size) (Lib.cell?_alloc_some _ (by rw [Go.Joins.cell_of_block C]; rfl)))) | skip); (first | (refine have_then (w4.heap[w0.heap.size + 1]? = some (.cells #[.int .u8 y.toNat] 5 (0, 0))) ?_ ?_; (refine (hg4.block (w0.heap.size + 1) (by first | (simp; done) | (simp; omega)) (by intro e; injection e with e; omega)).trans ?_; (first | exact heap_alloc_new w0 _ | exact (Below.heap_alloc _ _ _ (by first | (simp; done) | (simp; omega))).trans (heap_alloc_new w0 _) | exact (heap_new2 w0 _ _).2)); intro D; have Dk := hchar.out w4 (w0.heap.size + 1) (by rw [Go.Joins.cell_of_block D]; rfl); have Do := (fun o => hchar.out (w4.alloc o) (w0.heap.size + 1) (Lib.cell?_alloc_some _ (by rw [Go.Joins.cell_of_block D]; rfl)))) | skip); have hw04 : w0.grownBy w4 (some b) := ⟨hg4.os, hg4.tape, hg4.output, (by have := hg4.size; simp at this; omega), fun i hi hn => (hg4.block i (by first | exact hi | (simp; omega)) hn).trans (by first | rfl | exact Below.heap_alloc _ _ _ (by omega) | exact (Below.heap_alloc _ _ _ (by simp; omega)).trans (Below.heap_alloc _ _ _ (by omega)))⟩; have hz4 := hw04.size; have hG4 := Lib.hid (grown_tr (grown_of hb0 (some b)) hw04); have HR4 := Lib.hid ((hw04.block w.heap.size (by omega) (by intro e; injection e with e; omega)).trans HR0.out); clear hw04 hg4; replace hs4 := Lib.hid hs4; dsimp only)
    all_goals
      go_wp2_with fail
      go_meet
      refine ⟨_, k4, ⟨⟨#[y]⟩, 97 + q, IntKind.i64.wrap (100 * r4), [], [], [], ⟨#[]⟩⟩, rfl, ⟨?_, ?_, hbl, ?_, ?_, ?_, ?_, ⟨[], World.ownsRow_nil _ _ _ _, fun j K hj => absurd hj (Nat.not_lt_zero j), fun i j u v _ hu => by simp at hu⟩, rfl, World.ownsRow_nil _ _ _ _, rfl, World.ownsRow_nil _ _ _ _, rfl, ⟨by show 1 ≤ 12; omega, by simp, by simp, by simp, by simp, by simp, by show 0 ≤ 8; omega, fun q hq => absurd hq (List.not_mem_nil), fun q hq => absurd hq (List.not_mem_nil)⟩⟩, by omega, rfl, rfl, rfl⟩
      · repeat (first | (with_reducible exact hG4.out) | (with_reducible refine grown_allocA ?_ _) | (with_reducible refine grown_setO ?_ (by omega) _ _))
      · refine hs4.out.keepL (fun i hi => ?_)
        repeat (first | ((with_reducible refine (Below.heap_setCell _ _ _ _ ?_).trans ?_); (simp only; omega)) | ((with_reducible refine (Below.heap_alloc _ _ _ ?_).trans ?_); (first | omega | (simp; omega))))
        try (with_reducible rfl)
      · omega
      · first | omega | (simp; done) | (simp; omega)
      · show _ = some (Obj.cells #[.string ⟨#[y]⟩, .int .i64 (97 + q), .int .i64 (IntKind.i64.wrap (100 * r4)), .slice none 0 0, .slice none 0 0, .slice none 0 0, .string ⟨#[]⟩] 39 (0, 0))
        first
          | (with_reducible exact heap_alloc_new w4 _)
          | (with_reducible exact (heap_new2 w4 _ _).2)
          | (with_reducible exact (heap_new2 w4 _ _).1)
          | (with_reducible exact set_all7 A _ _ _ _ _ _ _)
          | (with_reducible exact set_all7 B _ _ _ _ _ _ _)
          | ((with_reducible refine (Below.heap_alloc _ _ _ ?_).trans (set_all7 A _ _ _ _ _ _ _)); (simp; omega))
          | ((with_reducible refine (Below.heap_alloc _ _ _ ?_).trans (set_all7 B _ _ _ _ _ _ _)); (simp; omega))
      · repeat (first | ((with_reducible refine (Below.heap_setCell _ _ _ _ ?_).trans ?_); (simp only; omega)) | ((with_reducible refine (Below.heap_alloc _ _ _ ?_).trans ?_); (first | omega | (simp; omega))))
        exact HR4.out
  case rest =>
    obtain ⟨w1, hw1⟩ : ∃ v, v = wc := ⟨_, rfl⟩
    subst hw1
    obtain ⟨Y, k1, d, rfl, hD, hk1, e1, e2, e3⟩ := hcut
    clear hs0 HR0 hb0 hz0 hchar hwy hrem hw97 hy
    have hqi : ¬ (26 : Int) ≤ (q : Int) := by omega
    have hc1 := Lib.hid (one_any b k1 5 w1 hD.s (by omega))
    replace hD := Lib.hid hD
    go_wp2_with fail
    refine hc1.out.mono ?_
    rintro e w2 ⟨r, k2, rfl, hs2, hk2, hg2⟩
    replace hD := Lib.hid (hD.out.grown hg2 hs2)
    clear hc1 hs2 hg2
    go_upto_if 30 with fail
    go_cut [5] (fun s5 wx => ∃ (k3 : Nat) (d : Gl), s5 = .pointer (some ⟨Y, 0, none⟩) ∧ DrG w Y b wx d nilH k3 ∧ k3 ≤ k + 4 ∧ d.out = [] ∧ d.parts = [] ∧ d.anchors = [])
    case first =>
      cases r
      · go_wp2_with fail
        go_meet
        exact ⟨k2, d, rfl, hD.out, by omega, e1, e2, e3⟩
      · have gc1 := hD.out.cells (i := 1) rfl
        have gf := Go.Joins.unfrozen_of_block hD.out.box
        go_wp2_with fail
        go_meet
        exact ⟨k2, ⟨d.name, -1, d.adv, d.out, d.parts, d.anchors, d.hints⟩, rfl, hD.out.cell rfl rfl rfl rfl ⟨hD.out.ok.nm, hD.out.ok.ol, hD.out.ok.ok, hD.out.ok.pl, hD.out.ok.al, hD.out.ok.as', hD.out.ok.hl, hD.out.ok.pm, hD.out.ok.am⟩, by omega, e1, e2, e3⟩
    case rest =>
      obtain ⟨w3, hw3⟩ : ∃ v, v = wc := ⟨_, rfl⟩
      subst hw3
      clear hD e1 e2 e3 hk2
      obtain ⟨k3, d, rfl, hD, hk3, e1, e2, e3⟩ := hcut
      replace hD := Lib.hid hD
      go_upto_region 6 with fail
      go_cut [5, 37] (fun s5 s37 wx => ∃ (k4 : Nat) (r : Bool), s5 = .pointer (some ⟨Y, 0, none⟩) ∧ s37 = .bool r ∧ DrG w Y b wx d nilH k4 ∧ k4 ≤ k + 6 ∧ (r = true → 0 < q))
      case first =>
        rcases Nat.eq_zero_or_pos q with h0 | h0
        · have hqz : ¬ (0 : Int) < (q : Int) := by omega
          have hqb : decide ((0 : Int) < (q : Int)) = false := by simpa using hqz
          replace h0 := Lib.hid h0
          go_wp2_with fail
          go_meet
          exact ⟨k3, false, rfl, by first | rfl | rw [hqb], hD.out, by omega, by simp⟩
        · have hqz : (0 : Int) < (q : Int) := by omega
          have hqb : decide ((0 : Int) < (q : Int)) = true := by simpa using hqz
          have hc1 := Lib.hid (one_any b k3 3 w3 hD.out.s (by omega))
          go_wp2_with fail
          refine hc1.out.mono ?_
          rintro e w4 ⟨r, k4, rfl, hs4, hk4, hg4⟩
          have hD4 := Lib.hid (hD.out.grown hg4 hs4)
          clear hs4 hg4
          go_wp2_with fail
          go_meet
          exact ⟨k4, r, rfl, rfl, hD4.out, by omega, fun _ => h0⟩
      case rest =>
        obtain ⟨w4, hw4⟩ : ∃ v, v = wc := ⟨_, rfl⟩
        subst hw4
        clear hD
        obtain ⟨k4, r, rfl, rfl, hD, hk4, hrq⟩ := hcut
        replace hD := Lib.hid hD
        go_upto_if 37 with fail
        go_cut [5] (fun s5 wx => ∃ (k5 : Nat) (d : Gl) (h : GlH), s5 = .pointer (some ⟨Y, 0, none⟩) ∧ DrG w Y b wx d h k5 ∧ k5 ≤ k + 700 ∧ d.anchors = [])
        case first =>
          cases r
          · have hc2 := Lib.hid (pick_any b k4 3 w4 hD.out.s (by omega))
            go_wp2_with fail
            refine hc2.out.mono ?_
            rintro e w5 ⟨t0, k5, rfl, ht0, ht1, _, hs5, hk5, hg5⟩
            have ht3 := ht1 (by omega)
            have hD5 := Lib.hid (hD.out.grown hg5 hs5)
            obtain ⟨N, hN⟩ : ∃ N : Nat, (N : Int) = t0 := ⟨t0.toNat, by omega⟩
            clear hc2 hs5 hg5 ht1 hD
            go_wp2_with fail
            go_loopw [8] (fun i wr => ∃ (t k6 : Nat) (d' : Gl) (h : GlH), i = .int .i64 t ∧ DrG w Y b wr d' h k6 ∧ d'.out.length + t = N ∧ k6 + 200 * t ≤ k + 10 + 200 * N ∧ d'.anchors = []) (fun i wr => (intOf i).toNat)
            case atStart => exact ⟨N, k5, d, nilH, by rw [hN], hD5.out, by rw [e1]; simp, by omega, e3⟩
            case round =>
              clear hD5
              obtain ⟨t, k6, d', h, rfl, hE, hl, hk6, ea⟩ := hrel
              by_cases ht : 0 < t
              · have hti : (0 : Int) < (t : Int) := by omega
                obtain ⟨ys, hys⟩ := hE.o
                have hYb := hE.lo
                have hYl := hE.hi
                have hn3 := hE.on
                have c3 := hE.cells (i := 3) rfl
                have f3 := Go.Joins.unfrozen_of_block hE.box
                have hcD := Lib.hid (l10DrawLoop_any b k6 500 wr.drew hE.s (by omega) (by omega) (by omega))
                have hbY : b < Y + 1 := by omega
                replace hys := Lib.hid hys
                replace hE := Lib.hid hE
                go_wp2_with fail
                go_region_law (first
                  | (refine stepAppAt rfl (.tmp 66) (.tmp 69) elemLoop rfl (v := .slice h.out.A h.out.n h.out.c) (n := h.out.n) (xs := ys) rfl ((own_grown hys.out.1 hg6.out hbY).alloc _) rfl (src_at (cs := [.slice A2 K.length c2]) rfl (by simp [Value.oneCell']) (by simp)) (by omega) (by omega) (by simp; omega) (h.out.n + 1) rfl ?_; intro A7 c7 w7 ho7 hg7; have hk7 : w7.heap[Y]? = wr.heap[Y]? := ((hg7.block Y (by simp; omega) (fun e => by have := (hys.out.1.lt _ e.symm).1; omega)).trans (Below.heap_alloc _ _ _ (by omega))).trans (hg6.out.block Y hYl (by intro e; injection e with e; omega)); have q7 : w7.cell? ⟨Y, 3, none⟩ = some (.slice h.out.A h.out.n h.out.c) := (World.cell?_of_block hk7).trans c3; have f7 : ∀ o, w7.frozen? ⟨Y, o, none⟩ = false := (fun o => (World.frozen?_of_block hk7).trans (f3 o)); replace ho7 := Lib.hid ho7; replace hg7 := Lib.hid hg7; clear hk7)
                  | (go_simp; go_at_call 111; refine hcD.out.mono ?_; rintro e w6 ⟨A2, n2, c2, k7, K, rfl, hKl, hK1, hK9, hrow6, hs6, hk7b, hg6x⟩; subst hKl; have hg6 : Hid (wr.grownBy w6 (some b)) := (show wr.grownBy w6 (some b) from ⟨hg6x.os, hg6x.tape, hg6x.output, hg6x.size, hg6x.block⟩); have hz6 := hg6.out.size; have q6 : w6.cell? ⟨Y, 3, none⟩ = some (.slice h.out.A h.out.n h.out.c) := (World.cell?_of_block (hg6.out.block Y hYl (by intro e; injection e with e; omega))).trans c3; have q6l : Y < w6.heap.size := (by omega); replace hrow6 := Lib.hid hrow6; replace hs6 := Lib.hid hs6; clear hg6x; dsimp only))
                all_goals
                  go_wp2_with fail
                  go_roundw
                  case rel =>
                    exact ⟨t - 1, k7, ⟨d'.name, d'.code, d'.adv, d'.out ++ [K], d'.parts, d'.anchors, d'.hints⟩, ⟨⟨A7, h.out.n + 1, c7⟩, h.parts, h.anchors⟩, by go_num, hE.out.loop (k' := k7) (B := wr.heap.size) hys.out (grown_allocA hg6.out _) (hs6.out.kept (Go.Joins.below_alloc1 _ _) hs6.out.lt) (hrow6.out.alloc _) (Nat.le_refl _) hg7.out ho7.out (by omega) hK9, by simp; omega, by omega, ea⟩
                  case measure => simp [intOf]; omega
              · have ht0' : t = 0 := by omega
                have hti : ¬ (0 : Int) < (t : Int) := by omega
                replace ht0' := Lib.hid ht0'
                replace hl := Lib.hid hl
                go_wp2_with fail
                go_meet
                exact ⟨k6, d', h, rfl, hE, by omega, ea⟩
          · have h0q := hrq rfl
            have hc2 := Lib.hid (pick_any b k4 3 w4 hD.out.s (by omega))
            go_wp2_with fail
            refine hc2.out.mono ?_
            rintro e w5 ⟨t0, k5, rfl, ht0, ht1, _, hs5, hk5, hg5⟩
            have ht3 := ht1 (by omega)
            have hD5 := Lib.hid (hD.out.grown hg5 hs5)
            obtain ⟨N, hN⟩ : ∃ N : Nat, (N : Int) = 1 + t0 := ⟨(1 + t0).toNat, by omega⟩
            clear hc2 hs5 hg5 ht1 hD
            go_wp2_with fail
            go_loopw [6] (fun i wr => ∃ (t k6 : Nat) (d' : Gl) (h : GlH), i = .int .i64 t ∧ DrG w Y b wr d' h k6 ∧ d'.parts.length + t = N ∧ k6 + 20 * t ≤ k + 10 + 20 * N ∧ d'.anchors = []) (fun i wr => (intOf i).toNat)
            case atStart => exact ⟨N, k5, d, nilH, by rw [hN], hD5.out, by rw [e2]; simp, by omega, e3⟩
            case round =>
              clear hD5
              obtain ⟨t, k6, d', h, rfl, hE, hl, hk6, ea⟩ := hrel
              by_cases ht : 0 < t
              · have hti : (0 : Int) < (t : Int) := by omega
                have hcP := Lib.hid (pick_any b k6 q wr hE.s (by omega))
                replace hE := Lib.hid hE
                go_wp2_with fail
                refine hcP.out.mono ?_
                rintro e w6 ⟨p0, k7, rfl, hp0, _, _, hs7, hk7, hg7⟩
                have hE6 := Lib.hid (hE.out.grown hg7 hs7)
                have hYl := hE6.out.hi
                have hYb := hE6.out.lo
                have hbl6 := hs7.lt
                have HP := Lib.hid (heap_alloc_new w6 (.cells #[.int .i64 p0, .int .i64 0, .int .i64 0] 32 (0, 0)))
                have hba := Go.Joins.below_alloc1 w6 (.cells #[.int .i64 p0, .int .i64 0, .int .i64 0] 32 (0, 0))
                have hzz : (w6.alloc (.cells #[.int .i64 p0, .int .i64 0, .int .i64 0] 32 (0, 0))).heap.size = w6.heap.size + 1 := by simp
                have hsa := Lib.hid (hs7.kept hba hbl6)
                clear hcP hs7 hg7 hE
                go_wp2_with fail
                generalize w6.alloc (.cells #[.int .i64 p0, .int .i64 0, .int .i64 0] 32 (0, 0)) = w7 at *
                refine (l03Draw_any b k7 500 w7 hsa.out (by omega) (by omega) (by omega)).mono ?_
                rintro e w8 ⟨x, y, k8, rfl, hxy, hs8, hk8, hg8⟩
                replace hxy := Lib.hid (hxy.mono (show (500 : Int) ≤ 600 by omega))
                have hz8 := hg8.size
                have HP8 := Lib.hid ((hg8.block w6.heap.size (by omega) (by intro e; injection e with e; omega)).trans HP.out)
                have hg68 : w6.grownBy ((w8.setCell ⟨w6.heap.size, 1, none⟩ (.int .i64 x)).setCell ⟨w6.heap.size, 2, none⟩ (.int .i64 y)) (some b) := grown_setO (grown_setO (grown_tr (grown_of hba (some b)) hg8) (Nat.le_refl _) _ _) (Nat.le_refl _) _ _
                have hE9 := Lib.hid (hE6.out.grown hg68 ((hs8.set hbl6).set hbl6))
                have u0 : w8.cell? ⟨w6.heap.size, 0, none⟩ = some (.int .i64 p0) := by rw [Go.Joins.cell_of_block HP8.out]; rfl
                have u1 : w8.cell? ⟨w6.heap.size, 1, none⟩ = some (.int .i64 0) := by rw [Go.Joins.cell_of_block HP8.out]; rfl
                have u2 : w8.cell? ⟨w6.heap.size, 2, none⟩ = some (.int .i64 0) := by rw [Go.Joins.cell_of_block HP8.out]; rfl
                have uf : ∀ o, w8.frozen? ⟨w6.heap.size, o, none⟩ = false := Go.Joins.unfrozen_of_block HP8.out
                have ul : w6.heap.size < w8.heap.size := by omega
                have hY8 : Hid (w8.heap[Y]? = w6.heap[Y]?) := (hg8.block Y (by omega) (by intro e; injection e with e; omega)).trans (hba.block Y hYl)
                have v4 : w8.cell? ⟨Y, 4, none⟩ = some (.slice h.parts.A h.parts.n h.parts.c) := (World.cell?_of_block hY8.out).trans (hE6.out.cells (i := 4) rfl)
                have vf : ∀ o, w8.frozen? ⟨Y, o, none⟩ = false := fun o => (World.frozen?_of_block hY8.out).trans (Go.Joins.unfrozen_of_block hE6.out.box o)
                have vl : Y < w8.heap.size := by omega
                have n1 : ¬ Y = w6.heap.size := by omega
                have n2 : ¬ w6.heap.size = Y := by omega
                have hpn := hE9.out.pn
                have hzs : ((w8.setCell ⟨w6.heap.size, 1, none⟩ (.int .i64 x)).setCell ⟨w6.heap.size, 2, none⟩ (.int .i64 y)).heap.size = w8.heap.size := by simp
                have hE10 : Hid (∀ o : Obj, DrG w Y b (((w8.setCell ⟨w6.heap.size, 1, none⟩ (.int .i64 x)).setCell ⟨w6.heap.size, 2, none⟩ (.int .i64 y)).alloc o) d' h k8) := fun o => hE9.out.below (Go.Joins.below_alloc1 _ _)
                replace hzs := Lib.hid hzs
                replace hba := Lib.hid hba
                clear HP HP8 hg68 hs8 hg8 hsa hzz
                go_wp2_with (at_builtin; refine wpAppAt rfl (.tmp 53) (.tmp 55) elemPart rfl (v := .slice h.parts.A h.parts.n h.parts.c) (n := h.parts.n) (xs := d'.parts.flatMap partC) rfl (hE10.out _).p rfl (src_at (cs := [.int .i64 p0, .int .i64 x, .int .i64 y]) rfl (by simp [Value.oneCell']) (by simp)) (by omega) (by omega) (by simp; omega) (h.parts.n + 1) rfl ?_; intro A11 c11 w11 ho11 hg11 _; have hk11 : w11.heap[Y]? = w8.heap[Y]? := (hg11.block Y (by simp; omega) (fun e => by have := (hE9.out.p.lt _ e.symm).1; omega)).trans ((Below.heap_alloc _ _ _ (by simp; omega)).trans ((Below.heap_setCell _ _ _ _ (by simp only; omega)).trans (Below.heap_setCell _ _ _ _ (by simp only; omega)))); have y4 : w11.cell? ⟨Y, 4, none⟩ = some (.slice h.parts.A h.parts.n h.parts.c) := (World.cell?_of_block hk11).trans v4; have yf : ∀ o, w11.frozen? ⟨Y, o, none⟩ = false := (fun o => (World.frozen?_of_block hk11).trans (vf o)); replace ho11 := Lib.hid ho11; replace hg11 := Lib.hid hg11; clear hk11)
                go_roundw
                case rel =>
                  exact ⟨t - 1, k8, ⟨d'.name, d'.code, d'.adv, d'.out, d'.parts ++ [(p0, x, y)], d'.anchors, d'.hints⟩, ⟨h.out, ⟨A11, h.parts.n + 1, c11⟩, h.anchors⟩, by go_num, (hE10.out _).part (p := (p0, x, y)) hg11.out ho11.out (by omega) hxy.out, by simp; omega, by omega, ea⟩
                case measure => simp [intOf]; omega
              · have ht0' : t = 0 := by omega
                have hti : ¬ (0 : Int) < (t : Int) := by omega
                replace ht0' := Lib.hid ht0'
                replace hl := Lib.hid hl
                go_wp2_with fail
                go_meet
                exact ⟨k6, d', h, rfl, hE, by omega, ea⟩
        case rest =>
          obtain ⟨w5, hw5⟩ : ∃ v, v = wc := ⟨_, rfl⟩
          subst hw5
          clear hD e1 e2 e3
          obtain ⟨k5, d, h, rfl, hD, hk5, ea⟩ := hcut
          have hS := Lib.hid (heap_alloc_new w5 (.cells #[.string ⟨#[116, 111, 112]⟩, .string ⟨#[98, 111, 116, 116, 111, 109]⟩, .string ⟨#[109, 97, 114, 107, 46, 116, 111, 112]⟩] 9 (0, 0)))
          have hD6 := Lib.hid (hD.below (Go.Joins.below_alloc1 w5 (.cells #[.string ⟨#[116, 111, 112]⟩, .string ⟨#[98, 111, 116, 116, 111, 109]⟩, .string ⟨#[109, 97, 114, 107, 46, 116, 111, 112]⟩] 9 (0, 0))))
          have hYb := hD.lo
          have hY5 := hD.hi
          replace hD := Lib.hid hD
          go_wp2_with fail
          generalize w5.alloc (.cells #[.string ⟨#[116, 111, 112]⟩, .string ⟨#[98, 111, 116, 116, 111, 109]⟩, .string ⟨#[109, 97, 114, 107, 46, 116, 111, 112]⟩] 9 (0, 0)) = w6 at *
          go_loopw [10] (fun i wr => ∃ (t k6 : Nat) (d' : Gl) (h' : GlH), i = .int .i64 t ∧ t ≤ 3 ∧ DrG w Y b wr d' h' k6 ∧ d'.anchors.length ≤ t ∧ k6 ≤ k + 700 + 20 * t ∧ wr.heap[w5.heap.size]? = some (.cells #[.string ⟨#[116, 111, 112]⟩, .string ⟨#[98, 111, 116, 116, 111, 109]⟩, .string ⟨#[109, 97, 114, 107, 46, 116, 111, 112]⟩] 9 (0, 0))) (fun i wr => 3 - (intOf i).toNat)
          case atStart => exact ⟨0, k5, d, h, rfl, by omega, hD6.out, by rw [ea]; simp, by omega, hS.out⟩
          case round =>
            clear hS hD6
            obtain ⟨t, k6, d', h', rfl, ht, hE, hal, hk6, hS⟩ := hrel
            by_cases ht3 : t < 3
            · obtain ⟨nmv, hn, hnz⟩ : ∃ nmv : ByteArray, wr.cell? ⟨w5.heap.size, t, none⟩ = some (.string nmv) ∧ nmv.size ≤ 12 := by
                rw [Go.Joins.cell_of_block hS]
                match t, ht3 with
                | 0, _ => exact ⟨_, rfl, by decide⟩
                | 1, _ => exact ⟨_, rfl, by decide⟩
                | 2, _ => exact ⟨_, rfl, by decide⟩
              have hSl := (Array.getElem?_eq_some_iff.1 hS).1
              have hti : (t : Int) < 3 := by omega
              have ht0i : (0 : Int) ≤ (t : Int) := by omega
              have hc1 := Lib.hid (one_any b k6 3 wr hE.s (by omega))
              replace hE := Lib.hid hE
              go_wp2_with fail
              refine hc1.out.mono ?_
              rintro e w7 ⟨r7, k7, rfl, hs7, hk7, hg7⟩
              have hE7 := hE.out.grown hg7 hs7
              have hz7 := hg7.size
              have hS7 := (hg7.block w5.heap.size hSl (by intro e; injection e with e; omega)).trans hS
              have hn7 : w7.cell? ⟨w5.heap.size, t, none⟩ = some (.string nmv) := (World.cell?_of_block (hg7.block w5.heap.size hSl (by intro e; injection e with e; omega))).trans hn
              clear hc1 hg7 hE hs7 hn hS
              cases r7
              · replace hE7 := Lib.hid hE7
                replace hS7 := Lib.hid hS7
                go_wp2_with fail
                go_roundw
                case rel => exact ⟨t + 1, k7, d', h', by go_num, by omega, hE7.out, by omega, by omega, hS7.out⟩
                case measure => simp [intOf]; omega
              · have c5 := hE7.cells (i := 5) rfl
                have f5 := Go.Joins.unfrozen_of_block hE7.box
                have hY7 := hE7.hi
                have hS7l : w5.heap.size < w7.heap.size := by omega
                have han := hE7.an
                have hcD := Lib.hid (l03Draw_any b k7 600 w7.drew hE7.s (by omega) (by omega) (by omega))
                have hbY : b < Y + 1 := by omega
                replace hE7 := Lib.hid hE7
                replace hS7 := Lib.hid hS7
                go_wp2_with fail
                go_region_law (first
                  | (refine stepAppAt rfl (.tmp 81) (.tmp 89) elemAnchor rfl (v := .slice h'.anchors.A h'.anchors.n h'.anchors.c) (n := h'.anchors.n) (xs := d'.anchors.flatMap anchC) rfl (hE8.out.a.alloc _) rfl (src_at (cs := [.string nmv, .int .i64 x, .int .i64 y]) rfl (by simp [Value.oneCell']) (by simp)) (by omega) (by omega) (by simp; omega) (h'.anchors.n + 1) rfl ?_; intro A9 c9 w9 ho9 hg9; have hk9 : w9.heap[Y]? = w8.heap[Y]? := ((hg9.block Y (by simp; omega) (fun e => by have := (hE8.out.a.lt _ e.symm).1; omega)).trans (Below.heap_alloc _ _ _ (by omega))); have q9 : w9.cell? ⟨Y, 5, none⟩ = some (.slice h'.anchors.A h'.anchors.n h'.anchors.c) := (World.cell?_of_block hk9).trans q8; have f9 : ∀ o, w9.frozen? ⟨Y, o, none⟩ = false := (fun o => (World.frozen?_of_block hk9).trans (Go.Joins.unfrozen_of_block hE8.out.box o)); replace ho9 := Lib.hid ho9; replace hg9 := Lib.hid hg9; clear hk9)
                  | (go_simp; go_at_call 110; refine hcD.out.mono ?_; rintro e w8 ⟨x, y, k8, rfl, hxy, hs8, hk8, hg8x⟩; replace hxy := Lib.hid hxy; have hg8 : w7.grownBy w8 (some b) := (show w7.grownBy w8 (some b) from ⟨hg8x.os, hg8x.tape, hg8x.output, hg8x.size, hg8x.block⟩); have hE8 := Lib.hid (hE7.out.grown hg8 hs8); have hz8 := hg8.size; have hS8 : w8.heap[w5.heap.size]? = w7.heap[w5.heap.size]? := hg8.block w5.heap.size hS7l (by intro e; injection e with e; omega); have n8 : w8.cell? ⟨w5.heap.size, t, none⟩ = some (.string nmv) := (World.cell?_of_block hS8).trans hn7; have q8 : w8.cell? ⟨Y, 5, none⟩ = some (.slice h'.anchors.A h'.anchors.n h'.anchors.c) := (World.cell?_of_block (hg8.block Y hY7 (by intro e; injection e with e; omega))).trans c5; have q8l : Y < w8.heap.size := (by omega); have n8l : w5.heap.size < w8.heap.size := (by omega); replace hS8 := Lib.hid hS8; clear hg8x hg8 hs8; dsimp only))
                all_goals
                  go_wp2_with fail
                  go_roundw
                  case rel =>
                    refine ⟨t + 1, k8, ⟨d'.name, d'.code, d'.adv, d'.out, d'.parts, d'.anchors ++ [(nmv, x, y)], d'.hints⟩, ⟨h'.out, h'.parts, ⟨A9, h'.anchors.n + 1, c9⟩⟩, by go_num, by omega, DrG.anch (p := (nmv, x, y)) (hE8.out.below (Go.Joins.below_alloc1 _ _)) hg9.out ho9.out (by omega) hnz hxy.out, by simp; omega, by omega, ?_⟩
                    exact (Below.heap_setCell _ _ _ _ (by simp only; omega)).trans ((hg9.out.block w5.heap.size (by simp; omega) (fun e => by obtain ⟨_, hk'⟩ := own_kind hE8.out.a e.symm; rw [hS8.out, hS7.out] at hk'; injection hk' with hk'; injection hk' with _ hk' _; exact absurd hk' (by decide))).trans ((Below.heap_alloc _ _ _ (by omega)).trans (hS8.out.trans hS7.out)))
                  case measure => simp [intOf]; omega
            · have hti : ¬ (t : Int) < 3 := by omega
              have hc1 := Lib.hid (one_any b k6 4 wr hE.s (by omega))
              replace hE := Lib.hid hE
              clear hS
              go_wp2_with fail
              refine hc1.out.mono ?_
              rintro e w7 ⟨r7, k7, rfl, hs7, hk7, hg7⟩
              have hE7 := hE.out.grown hg7 hs7
              have kx : w.heap.size < Y + 1 := by omega
              clear hc1 hg7 hE
              cases r7
              · clear hs7
                have r0 : w7.cell? ⟨w.heap.size, 0, none⟩ = some (.string ⟨#[]⟩) := by rw [Go.Joins.cell_of_block hE7.res]; rfl
                have r1 : w7.cell? ⟨w.heap.size, 1, none⟩ = some (.int .i64 0) := by rw [Go.Joins.cell_of_block hE7.res]; rfl
                have r2 : w7.cell? ⟨w.heap.size, 2, none⟩ = some (.int .i64 0) := by rw [Go.Joins.cell_of_block hE7.res]; rfl
                have r3 : w7.cell? ⟨w.heap.size, 3, none⟩ = some (.slice none 0 0) := by rw [Go.Joins.cell_of_block hE7.res]; rfl
                have r4' : w7.cell? ⟨w.heap.size, 4, none⟩ = some (.slice none 0 0) := by rw [Go.Joins.cell_of_block hE7.res]; rfl
                have r5 : w7.cell? ⟨w.heap.size, 5, none⟩ = some (.slice none 0 0) := by rw [Go.Joins.cell_of_block hE7.res]; rfl
                have r6 : w7.cell? ⟨w.heap.size, 6, none⟩ = some (.string ⟨#[]⟩) := by rw [Go.Joins.cell_of_block hE7.res]; rfl
                have rf : ∀ o, w7.frozen? ⟨w.heap.size, o, none⟩ = false := Go.Joins.unfrozen_of_block hE7.res
                have y0 : w7.cell? ⟨Y, 0, none⟩ = some (.string d'.name) := hE7.cells (i := 0) rfl
                have y1 : w7.cell? ⟨Y, 1, none⟩ = some (.int .i64 d'.code) := hE7.cells (i := 1) rfl
                have y2 : w7.cell? ⟨Y, 2, none⟩ = some (.int .i64 d'.adv) := hE7.cells (i := 2) rfl
                have y3 : w7.cell? ⟨Y, 3, none⟩ = some (.slice h'.out.A h'.out.n h'.out.c) := hE7.cells (i := 3) rfl
                have y4 : w7.cell? ⟨Y, 4, none⟩ = some (.slice h'.parts.A h'.parts.n h'.parts.c) := hE7.cells (i := 4) rfl
                have y5 : w7.cell? ⟨Y, 5, none⟩ = some (.slice h'.anchors.A h'.anchors.n h'.anchors.c) := hE7.cells (i := 5) rfl
                have y6 : w7.cell? ⟨Y, 6, none⟩ = some (.string d'.hints) := hE7.cells (i := 6) rfl
                have yf : ∀ o, w7.frozen? ⟨Y, o, none⟩ = false := Go.Joins.unfrozen_of_block hE7.box
                have yl : Y < w7.heap.size := hE7.hi
                have rl : w.heap.size < w7.heap.size := by omega
                replace hE7 := Lib.hid hE7
                go_wp2_with fail
                refine bodyPost_ret (v := glV d' h') (by simp [results, Try.results72, go_sem, r0, r1, r2, r3, r4', r5, r6]) rfl ⟨d', h', k7, rfl, ?_, hE7.out.ok, ?_, by omega, ?_⟩
                · have hx := hE7.out.glx
                  exact (hx.same ((((((((SameB.refl _ _ _).setCell (.inl kx) _).setCell (.inl kx) _).setCell (.inl kx) _).setCell (.inl kx) _).setCell (.inl kx) _).setCell (.inl kx) _).setCell (.inl kx) _)).wide (by omega) (by simp)
                · exact ((((((hE7.out.s.set hbl).set hbl).set hbl).set hbl).set hbl).set hbl).set hbl
                · exact grown_setO (grown_setO (grown_setO (grown_setO (grown_setO (grown_setO (grown_setO hE7.out.g (Nat.le_refl _) _ _) (Nat.le_refl _) _ _) (Nat.le_refl _) _ _) (Nat.le_refl _) _ _) (Nat.le_refl _) _ _) (Nat.le_refl _) _ _) (Nat.le_refl _) _ _
              · have hcW := Lib.hid (word_any b k7 8 w7 hs7 (by omega) (by omega) (by omega))
                replace hE7 := Lib.hid hE7
                clear hs7
                go_wp2_with fail
                refine hcW.out.mono ?_
                rintro e w8 ⟨sw, k8, rfl, hsz, hs8, hk8, hg8⟩
                have hE8 := hE7.out.grown hg8 hs8
                clear hcW hE7 hg8 hs8
                have r0 : w8.cell? ⟨w.heap.size, 0, none⟩ = some (.string ⟨#[]⟩) := by rw [Go.Joins.cell_of_block hE8.res]; rfl
                have r1 : w8.cell? ⟨w.heap.size, 1, none⟩ = some (.int .i64 0) := by rw [Go.Joins.cell_of_block hE8.res]; rfl
                have r2 : w8.cell? ⟨w.heap.size, 2, none⟩ = some (.int .i64 0) := by rw [Go.Joins.cell_of_block hE8.res]; rfl
                have r3 : w8.cell? ⟨w.heap.size, 3, none⟩ = some (.slice none 0 0) := by rw [Go.Joins.cell_of_block hE8.res]; rfl
                have r4' : w8.cell? ⟨w.heap.size, 4, none⟩ = some (.slice none 0 0) := by rw [Go.Joins.cell_of_block hE8.res]; rfl
                have r5 : w8.cell? ⟨w.heap.size, 5, none⟩ = some (.slice none 0 0) := by rw [Go.Joins.cell_of_block hE8.res]; rfl
                have r6 : w8.cell? ⟨w.heap.size, 6, none⟩ = some (.string ⟨#[]⟩) := by rw [Go.Joins.cell_of_block hE8.res]; rfl
                have rf : ∀ o, w8.frozen? ⟨w.heap.size, o, none⟩ = false := Go.Joins.unfrozen_of_block hE8.res
                have y0 : w8.cell? ⟨Y, 0, none⟩ = some (.string d'.name) := hE8.cells (i := 0) rfl
                have y1 : w8.cell? ⟨Y, 1, none⟩ = some (.int .i64 d'.code) := hE8.cells (i := 1) rfl
                have y2 : w8.cell? ⟨Y, 2, none⟩ = some (.int .i64 d'.adv) := hE8.cells (i := 2) rfl
                have y3 : w8.cell? ⟨Y, 3, none⟩ = some (.slice h'.out.A h'.out.n h'.out.c) := hE8.cells (i := 3) rfl
                have y4 : w8.cell? ⟨Y, 4, none⟩ = some (.slice h'.parts.A h'.parts.n h'.parts.c) := hE8.cells (i := 4) rfl
                have y5 : w8.cell? ⟨Y, 5, none⟩ = some (.slice h'.anchors.A h'.anchors.n h'.anchors.c) := hE8.cells (i := 5) rfl
                have y6 : w8.cell? ⟨Y, 6, none⟩ = some (.string d'.hints) := hE8.cells (i := 6) rfl
                have yf : ∀ o, w8.frozen? ⟨Y, o, none⟩ = false := Go.Joins.unfrozen_of_block hE8.box
                have yl : Y < w8.heap.size := hE8.hi
                have rl : w.heap.size < w8.heap.size := by omega
                have hE9 := hE8.cell (i := 6) (d' := ⟨d'.name, d'.code, d'.adv, d'.out, d'.parts, d'.anchors, sw⟩) (u := .string sw) rfl rfl rfl rfl ⟨hE8.ok.nm, hE8.ok.ol, hE8.ok.ok, hE8.ok.pl, hE8.ok.al, hE8.ok.as', by show sw.size ≤ 8; omega, hE8.ok.pm, hE8.ok.am⟩
                replace hE8 := Lib.hid hE8
                replace hE9 := Lib.hid hE9
                have n1 : ¬ Y = w.heap.size := by omega
                have n2 : ¬ w.heap.size = Y := by omega
                go_wp2_with fail
                refine bodyPost_ret (v := glV (⟨d'.name, d'.code, d'.adv, d'.out, d'.parts, d'.anchors, sw⟩ : Gl) h') (by simp [results, Try.results72, go_sem, r0, r1, r2, r3, r4', r5, r6]) rfl ⟨(⟨d'.name, d'.code, d'.adv, d'.out, d'.parts, d'.anchors, sw⟩ : Gl), h', k8, rfl, ?_, hE9.out.ok, ?_, by omega, ?_⟩
                · have hx := hE9.out.glx
                  exact (hx.same ((((((((SameB.refl _ _ _).setCell (.inl kx) _).setCell (.inl kx) _).setCell (.inl kx) _).setCell (.inl kx) _).setCell (.inl kx) _).setCell (.inl kx) _).setCell (.inl kx) _)).wide (by omega) (by simp)
                · exact ((((((hE9.out.s.set hbl).set hbl).set hbl).set hbl).set hbl).set hbl).set hbl
                · exact grown_setO (grown_setO (grown_setO (grown_setO (grown_setO (grown_setO (grown_setO hE9.out.g (Nat.le_refl _) _ _) (Nat.le_refl _) _ _) (Nat.le_refl _) _ _) (Nat.le_refl _) _ _) (Nat.le_refl _) _ _) (Nat.le_refl _) _ _) (Nat.le_refl _) _ _
end Go.Proofs.Ytgnjohkfgllhmaa

