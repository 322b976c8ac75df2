/- The source of draws: a block that holds the code, the place and the seed. Conditions: as each states. -/
import Derived.BigQuiet
import Derived.StillTailTactics
import Derived.Lib.Hide
import Derived.Laws.BitsLemmas
import Derived.Test.YtpmpbfkpiocleaaDoorAs14
namespace Go.Proofs.YtpmpbfkpiocleaaDoor
open Go.RowKit
set_option linter.unusedVariables false
set_option maxRecDepth 100000

/-- a byte's cell -/
def u8R : Rel Int := AndR (FlatR fun v : Int => [.int .u8 v]) fun v => 0 ≤ v ∧ v ≤ 255
theorem good_u8 : Good u8R := good_and (good_flat _) _
theorem opens_u8 : Opens Tryd.prog 5 u8R := by
  intro H enc w fuel cs x h
  obtain ⟨n, rfl, _, hw⟩ := DataW.trod_int Tryd.underlying5 h
  refine ⟨n, rfl, ?_⟩
  have e1 : IntKind.u8.min = 0 := rfl
  have e2 : IntKind.u8.max = 255 := rfl
  simp [Lit.wf, e1, e2] at hw
  show 0 ≤ n ∧ n ≤ 255
  omega
/-- block b is a source: its code, its place k, its seed -/
def SrcR (w : World) (b : Nat) (A : Option Addr) (n c k : Nat) (seed : Int) : Prop := w.heap[b]? = some (.cells #[.slice A n c, .int .i64 (k : Int), .int .u64 seed] 67 (0, 0))
theorem SrcR.lt {w : World} {b : Nat} {A : Option Addr} {n c k : Nat} {seed : Int} (h : SrcR w b A n c k seed) : b < w.heap.size := (Array.getElem?_eq_some_iff.1 h).1
theorem SrcR.c0 {w : World} {b : Nat} {A : Option Addr} {n c k : Nat} {seed : Int} (h : SrcR w b A n c k seed) : w.cell? ⟨b, 0, none⟩ = some (.slice A n c) := by rw [Go.Joins.cell_of_block h]; rfl
theorem SrcR.c1 {w : World} {b : Nat} {A : Option Addr} {n c k : Nat} {seed : Int} (h : SrcR w b A n c k seed) : w.cell? ⟨b, 1, none⟩ = some (.int .i64 k) := by rw [Go.Joins.cell_of_block h]; rfl
theorem SrcR.c2 {w : World} {b : Nat} {A : Option Addr} {n c k : Nat} {seed : Int} (h : SrcR w b A n c k seed) : w.cell? ⟨b, 2, none⟩ = some (.int .u64 seed) := by rw [Go.Joins.cell_of_block h]; rfl
theorem SrcR.fz {w : World} {b : Nat} {A : Option Addr} {n c k : Nat} {seed : Int} (h : SrcR w b A n c k seed) (o : Nat) : w.frozen? ⟨b, o, none⟩ = false := Go.Joins.unfrozen_of_block h o
theorem SrcR.keep {w w' : World} {b : Nat} {A : Option Addr} {n c k : Nat} {seed : Int} (h : SrcR w b A n c k seed) (hk : w'.heap[b]? = w.heap[b]?) : SrcR w' b A n c k seed := hk.trans h
theorem SrcR.drewN {w : World} {b : Nat} {A : Option Addr} {n c k : Nat} {seed : Int} (h : SrcR w b A n c k seed) (q : Nat) : SrcR (w.drewN q) b A n c k seed := h
theorem SrcR.set {w : World} {b : Nat} {A : Option Addr} {n c k : Nat} {seed : Int} (h : SrcR w b A n c k seed) (k' : Nat) (seed' : Int) : SrcR ((w.setCell ⟨b, 1, none⟩ (.int .i64 (k' : Int))).setCell ⟨b, 2, none⟩ (.int .u64 seed')) b A n c k' seed' :=
  Go.Joins.block_setCell (Go.Joins.block_setCell h (.int .i64 (k' : Int))) (.int .u64 seed')

theorem u8_at {w : World} {lo hi n : Nat} {A : Option Addr} {L : List Int} (h : RdS 1 u8R w lo hi A n L) {j : Nat} (hj : j < n) : ∃ b off v, A = some ⟨b, off, none⟩ ∧ lo ≤ b ∧ b < hi ∧ 0 ≤ v ∧ v ≤ 255 ∧ w.cell? ⟨b, off + j, none⟩ = some (.int .u8 v) := by
  obtain ⟨h1, h2⟩ := RdS.parted (R := FlatR fun v : Int => [.int .u8 v]) (p := fun v => 0 ≤ v ∧ v ≤ 255) h
  obtain ⟨b, off, v, rfl, hb0, hb1, hja, hcs⟩ := h1.at hj
  have h3 := h2 v (List.mem_of_getElem? hja)
  exact ⟨b, off, v, rfl, hb0, hb1, h3.1, h3.2, by have := hcs 0 _ rfl; simpa using this⟩

theorem u64_wrap_bd (n : Int) : 0 ≤ IntKind.u64.wrap n ∧ IntKind.u64.wrap n < 2 ^ 64 := by rw [IntKind.wrap_u64]; omega
theorem byte_of {sd : Int} (h : 0 ≤ sd ∧ sd < 2 ^ 64) : 0 ≤ wrap64 (bits BinOp.and IntKind.u64 (sd / 1099511627776) 255) ∧ wrap64 (bits BinOp.and IntKind.u64 (sd / 1099511627776) 255) ≤ 255 := by
  have e := bits_mask .u64 64 (by decide) (fun n h0 h1 => by rw [IntKind.wrap_u64]; omega) 8 (by omega) (sd / 1099511627776) (by omega) (by omega)
  have e2 : (2 : Int) ^ 8 - 1 = 255 := by decide
  rw [e2] at e
  rw [e]
  have e3 : (2 : Int) ^ 8 = 256 := by decide
  rw [e3]
  have hb : 0 ≤ sd / 1099511627776 % 256 ∧ sd / 1099511627776 % 256 ≤ 255 := by omega
  rw [IntWalk.wrap64_in _ (by omega)]
  exact hb
theorem grown_setA {w W : World} {b : Nat} (h : w.grownBy W (some b)) (o : Nat) (u : Value) : w.grownBy (W.setCell ⟨b, o, none⟩ u) (some b) :=
  ⟨h.os, h.tape, h.output, by simpa using h.size, fun i hi hn => (Below.heap_setCell W ⟨b, o, none⟩ u i (fun e => hn (by rw [e]))).trans (h.block i hi hn)⟩
theorem grown_drewA {w W : World} {row : Option Nat} (h : w.grownBy W row) (q : Nat) : w.grownBy (W.drewN q) row := ⟨h.os, h.tape, h.output, h.size, h.block⟩
set_option maxHeartbeats 1000000 in
theorem next_any (b : Nat) (A : Option Addr) (n c k lo hi : Nat) (seed : Int) (L : List Int) (w : World) (hs : SrcR w b A n c k seed) (hr : RdS 1 u8R w lo hi A n L) (hn : n ≤ 1000000000) (hk : k ≤ 1000000000) :
    Calls Tryd.prog 39 #[.pointer (some ⟨b, 0, none⟩)] w fun e w' => ∃ (x seed' : Int), e = .returned (.int .i64 x) ∧ 0 ≤ x ∧ x ≤ 255 ∧ SrcR w' b A n c (k + 1) seed' ∧ w.grownBy w' (some b) := by
  have c0 := hs.c0
  have c1 := hs.c1
  have c2 := hs.c2
  have f1 := hs.fz 1
  have f2 := hs.fz 2
  have hb := hs.lt
  replace hs := Lib.hid hs
  by_cases hlt : k < n
  · obtain ⟨b1, o1, v, rfl, _, hbw, hv0, hv1, q0⟩ := u8_at hr hlt
    clear hr
    have hb1 := cell_lt q0
    simp only at hb1
    have hki : decide ((k : Int) < (n : Int)) = true := by simp; omega
    have hkj : decide ((k : Int) + 1 ≤ (n : Int)) = true := by simp; omega
    have hkb : (0 : Int) ≤ (k : Int) ∧ (k : Int) < (n : Int) := by omega
    go_enter Tryd.func39, Tryd.ntmps39
    go_wp2_with fail
    go_quiet (fail)
    go_wp2_with fail
    obtain ⟨nq1, hq1⟩ : ∃ m, m = nq := ⟨_, rfl⟩
    subst hq1
    go_quiet (fail)
    go_wp2_with fail
    generalize hsd : IntKind.u64.wrap (IntKind.u64.wrap (IntKind.u64.wrap (seed * 6364136223846793005) + v) + 1442695040888963407) = sd
    clear hsd
    have hs2 := Lib.hid ((hs.out.drewN (nq1 + nq)).set (k + 1) sd)
    go_quiet (fail)
    go_wp2_with fail
    go_ret
    exact ⟨v, sd, rfl, hv0, hv1, hs2.out, by repeat (first | exact World.grownBy.refl _ _ | refine grown_setA ?_ _ _ | refine grown_drewA ?_ _)⟩
  · clear hr
    have hki : decide ((k : Int) < (n : Int)) = false := by simp; omega
    have hkj : decide ((k : Int) + 1 ≤ (n : Int)) = false := by simp; omega
    go_enter Tryd.func39, Tryd.ntmps39
    go_wp2_with fail
    go_quiet (fail)
    go_wp2_with fail
    have hx := u64_wrap_bd (IntKind.u64.wrap (IntKind.u64.wrap (seed * 6364136223846793005)) + 1442695040888963407)
    generalize hsd : IntKind.u64.wrap (IntKind.u64.wrap (IntKind.u64.wrap (seed * 6364136223846793005)) + 1442695040888963407) = sd at hx
    clear hsd
    replace hx := Lib.hid (byte_of hx)
    have hs2 := Lib.hid ((hs.out.drewN nq).set (k + 1) sd)
    go_quiet (fail)
    go_wp2_with fail
    go_ret
    exact ⟨_, sd, rfl, hx.out.1, hx.out.2, hs2.out, by repeat (first | exact World.grownBy.refl _ _ | refine grown_setA ?_ _ _ | refine grown_drewA ?_ _)⟩
/-- block b is a source whose place is k -/
def Src0 (w : World) (b k : Nat) : Prop := ∃ (A : Option Addr) (n c lo hi : Nat) (seed : Int) (L : List Int), SrcR w b A n c k seed ∧ RdS 1 u8R w lo hi A n L ∧ hi ≤ b ∧ n ≤ 1000000000
theorem Src0.lt {w : World} {b k : Nat} (h : Src0 w b k) : b < w.heap.size := by obtain ⟨_, _, _, _, _, _, _, h, _⟩ := h; exact h.lt
theorem Src0.kept {w w' : World} {b k B : Nat} (h : Src0 w b k) (hb : Below B w w') (hB : b < B) : Src0 w' b k := by
  obtain ⟨A, n, c, lo, hi, seed, L, h1, h2, h3, h4⟩ := h
  exact ⟨A, n, c, lo, hi, seed, L, h1.keep (hb.block b hB), h2.frame good_u8 (Below.sameB hb (by omega)), h3, h4⟩
theorem Src0.drew {w : World} {b k : Nat} (h : Src0 w b k) : Src0 w.drew b k := h
theorem nextS_any (b k : Nat) (w : World) (hs : Src0 w b k) (hk : k ≤ 1000000000) :
    Calls Tryd.prog 39 #[.pointer (some ⟨b, 0, none⟩)] w fun e w' => ∃ x : Int, e = .returned (.int .i64 x) ∧ 0 ≤ x ∧ x ≤ 255 ∧ Src0 w' b (k + 1) ∧ w.grownBy w' (some b) := by
  obtain ⟨A, n, c, lo, hi, seed, L, h1, h2, h3, h4⟩ := hs
  refine (next_any b A n c k lo hi seed L w h1 h2 h4 hk).mono ?_
  rintro e w' ⟨x, seed', rfl, hx0, hx1, hs', hg⟩
  exact ⟨x, rfl, hx0, hx1, ⟨A, n, c, lo, hi, seed', L, hs', h2.frame good_u8 (fun i h5 h6 => hg.block i (by have := h1.lt; omega) (by intro e; injection e with e; omega)), h3, h4⟩, hg⟩
theorem grown_tr {a b c : World} {row : Option Nat} (h : a.grownBy b row) (k : b.grownBy c row) : a.grownBy c row :=
  ⟨k.os.trans h.os, k.tape.trans h.tape, k.output.trans h.output, Nat.le_trans h.size k.size, fun i hi hn => (k.block i (Nat.lt_of_lt_of_le hi h.size) hn).trans (h.block i hi hn)⟩
theorem grown_of {W w' : World} (hb : Below W.heap.size W w') (row : Option Nat) : W.grownBy w' row := ⟨hb.os, hb.tape, hb.output, hb.size, fun k hk _ => hb.block k hk⟩

set_option maxHeartbeats 1000000 in
theorem pick_any (b k : Nat) (m : Int) (w : World) (hs : Src0 w b k) (hk : k ≤ 999999990) :
    Calls Tryd.prog 28 #[.pointer (some ⟨b, 0, none⟩), .int .i64 m] w fun e w' => ∃ (r : Int) (k' : Nat), e = .returned (.int .i64 r) ∧ 0 ≤ r ∧ (1 < m → r < m) ∧ (m ≤ 1 → r = 0) ∧ Src0 w' b k' ∧ k' ≤ k + 2 ∧ w.grownBy w' (some b) := by
  have hs0 := Lib.hid hs
  have hc := Lib.hid (nextS_any b k w hs (by omega))
  clear hs
  by_cases h1 : m ≤ 1
  · go_enter Tryd.func28, Tryd.ntmps28
    go_wp2_with fail
    go_ret
    exact ⟨0, k, rfl, by omega, by omega, fun _ => rfl, hs0.out, by omega, World.grownBy.refl _ _⟩
  by_cases h2 : 200 < m
  · go_enter Tryd.func28, Tryd.ntmps28
    go_wp2_with fail
    refine hc.out.mono ?_
    rintro e w1 ⟨x, rfl, hx0, hx1, hs1, hg1⟩
    have hc1 := Lib.hid (nextS_any b (k + 1) w1 hs1 (by omega))
    clear hs1 hc
    go_wp2_with fail
    refine hc1.out.mono ?_
    rintro e w2 ⟨y, rfl, hy0, hy1, hs2, hg2⟩
    replace hs2 := Lib.hid hs2
    go_wp2_with fail
    go_ret
    have hy := Int.emod_nonneg (x * 256 + y) (show m ≠ 0 by omega)
    have hz := Int.emod_lt_of_pos (x * 256 + y) (show 0 < m by omega)
    exact ⟨_, _, rfl, by omega, fun _ => by omega, by omega, hs2.out, by omega, grown_tr hg1 hg2⟩
  · go_enter Tryd.func28, Tryd.ntmps28
    go_wp2_with fail
    refine hc.out.mono ?_
    rintro e w1 ⟨x, rfl, hx0, hx1, hs1, hg1⟩
    replace hs1 := Lib.hid hs1
    go_wp2_with fail
    go_ret
    have hy := Int.emod_nonneg x (show m ≠ 0 by omega)
    have hz := Int.emod_lt_of_pos x (show 0 < m by omega)
    exact ⟨_, _, rfl, by omega, fun _ => by omega, by omega, hs1.out, by omega, hg1⟩

theorem one_any (b k : Nat) (m : Int) (w : World) (hs : Src0 w b k) (hk : k ≤ 999999990) :
    Calls Tryd.prog 30 #[.pointer (some ⟨b, 0, none⟩), .int .i64 m] w fun e w' => ∃ (r : Bool) (k' : Nat), e = .returned (.bool r) ∧ Src0 w' b k' ∧ k' ≤ k + 2 ∧ w.grownBy w' (some b) := by
  have hc := Lib.hid (pick_any b k m w hs hk)
  clear hs
  go_enter Tryd.func30, Tryd.ntmps30
  go_wp2_with fail
  refine hc.out.mono ?_
  rintro e w1 ⟨r, k', rfl, _, _, _, hs1, hk1, hg1⟩
  replace hs1 := Lib.hid hs1
  go_wp2_with fail
  go_ret
  exact ⟨_, k', rfl, hs1.out, hk1, hg1⟩

set_option maxHeartbeats 1000000 in
theorem among_any (b k : Nat) (A : Option Addr) (n c lo hi : Nat) (L : List Int) (w : World) (hs : Src0 w b k) (hk : k ≤ 999999990) (hr : RdS 1 (FlatR intC) w lo hi A n L) (hb : b < lo ∨ hi ≤ b) (hhi : hi ≤ w.heap.size) (hn : 1 ≤ n) (hn' : n ≤ 1000000) :
    Calls Tryd.prog 29 #[.pointer (some ⟨b, 0, none⟩), .slice A n c] w fun e w' => ∃ (r : Int) (k' : Nat), e = .returned (.int .i64 r) ∧ r ∈ L ∧ Src0 w' b k' ∧ k' ≤ k + 2 ∧ w.grownBy w' (some b) := by
  have hc := Lib.hid (pick_any b k n w hs hk)
  have hbl := hs.lt
  clear hs
  obtain ⟨b0, o0, _, rfl, hb0, hb1, _, _⟩ := hr.at (j := 0) (by omega)
  replace hr := Lib.hid hr
  go_enter Tryd.func29, Tryd.ntmps29
  go_wp2_with fail
  refine hc.out.mono ?_
  rintro e w1 ⟨r, k', rfl, h0, h1, h2, hs1, hk1, hg1⟩
  have hz1 := hg1.size
  obtain ⟨m, rfl⟩ : ∃ m : Nat, r = m := ⟨r.toNat, by omega⟩
  have hmn : m < n := by
    rcases Nat.lt_or_ge 1 n with h | h
    · have := h1 (by omega); omega
    · have := h2 (by omega); omega
  obtain ⟨b2, o2, v, hA, _, hbw, hja, hcs⟩ := (hr.out.frame (good_flat _) (grown_sameB hg1 hhi hb)).at hmn
  injection hA with hA
  injection hA with hA1 hA2
  subst hA1 hA2
  have q0 := hcs 0 _ rfl
  simp only [Nat.mul_one, Nat.add_zero] at q0
  have hmk : (0 : Int) ≤ (m : Int) ∧ (m : Int) < (n : Int) := by omega
  have hbw' : b0 < w1.heap.size := by omega
  replace hja := Lib.hid hja
  replace hs1 := Lib.hid hs1
  clear hcs h1 h2
  go_wp2_with fail
  go_ret
  exact ⟨v, k', rfl, List.mem_of_getElem? hja.out, hs1.out, hk1, hg1⟩

end Go.Proofs.YtpmpbfkpiocleaaDoor

