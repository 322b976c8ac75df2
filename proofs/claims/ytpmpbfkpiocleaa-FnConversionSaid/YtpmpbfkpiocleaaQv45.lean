/- Quadratics of a cubic; a quadratic's path; the joined paths. Conditions: as each states. -/
import Derived.Test.YtpmpbfkpiocleaaQv44
import Derived.Test.YtpmpbfkpiocleaaQv18
import Derived.Test.YtpmpbfkpiocleaaQv31
namespace Go.Proofs.Ytpmpbfkpiocleaa
open Go.RowKit
set_option linter.unusedVariables false
set_option maxRecDepth 100000

theorem isTol_yes (t : Int) (w : World) (h0 : 1 ≤ t) (h1 : t ≤ 262144) : Calls Try.prog 33 #[.int .i64 t] w fun e w' => e = .returned (.bool true) ∧ w' = w := by
  have hb : inB t 1 262144 = true := inB_iff.2 ⟨h0, h1⟩
  have := calls_turn (isTolerance_any t w)
  rw [hb] at this
  exact this
set_option maxHeartbeats 2000000 in
theorem implQuads_any (q : Cb) (hq : q.ok) (T : Int) (hT0 : 1 ≤ T) (hT1 : T ≤ 262144) (l n : Nat) (hl : IsLq (thirdC q) T l) (hn : n = 2 ^ l) (w : World) :
    Calls Try.prog 14 #[cbV q, .int .i64 T] w fun e w' => (∃ w1, w1.heap.size ≥ w.heap.size ∧ QuadsTo q n w1 e w') ∧ Below w.heap.size w w' := by
  have hv := Lib.hid (fun W => validCubic_yes q hq W)
  have ht := Lib.hid (fun W => isTol_yes T W hT0 hT1)
  have hc := Lib.hid (fun W => quadsOfCubic_any q hq T hT0 hT1 l n hl hn W)
  clear hl hn hq
  have hcase : Hid (∀ w1 e w', QuadsTo q n w1 e w' → ∃ v1 v2, e = .returned (.tuple #[v1, v2])) := Lib.hid fun w1 e w' h => by
    rcases h with ⟨_, h⟩ | ⟨_, A, c, h, _⟩
    · exact ⟨_, _, h⟩
    · exact ⟨_, _, h⟩
  obtain ⟨R, hR⟩ : ∃ R, R = QuadsTo q n := ⟨_, rfl⟩
  rw [← hR] at hc hcase ⊢
  clear hR
  obtain ⟨ax, ay, bx, b, cx, cy, dx, dy⟩ := q
  simp only [cbV] at hv hc ⊢
  have hb0 := Go.Joins.below_alloc1 w (.cells #[.int .i64 ax, .int .i64 ay, .int .i64 bx, .int .i64 b, .int .i64 cx, .int .i64 cy, .int .i64 dx, .int .i64 dy] 26 (0, 0))
  have hP0 := heap_alloc_new w (.cells #[.int .i64 ax, .int .i64 ay, .int .i64 bx, .int .i64 b, .int .i64 cx, .int .i64 cy, .int .i64 dx, .int .i64 dy] 26 (0, 0))
  go_enter Try.func14, Try.ntmps14
  go_upto_region 1 with fail
  generalize w.alloc (.cells #[.int .i64 ax, .int .i64 ay, .int .i64 bx, .int .i64 b, .int .i64 cx, .int .i64 cy, .int .i64 dx, .int .i64 dy] 26 (0, 0)) = w0 at *
  have hC : Hid (∀ W, Below w0.heap.size w0 W → CB W w.heap.size ax ay bx b cx cy dx dy) := Lib.hid fun W hW => CB.below (w := w0) hP0 hW
  clear hP0
  have hzw := hb0.size
  obtain ⟨⟨c0, c1, c2, c3, c4, c5, c6, c7⟩, _, cl⟩ := (hC.out w0 (Below.refl _ _)).cells
  go_wp2_with fail
  refine (hv.out w0).mono ?_
  rintro e w1 ⟨rfl, hb1⟩
  have hz1 := hb1.size
  go_wp2_with fail
  refine (ht.out w1).mono ?_
  rintro e w' ⟨rfl, rfl⟩
  clear c0 c1 c2 c3 c4 c5 c6 c7 cl
  obtain ⟨⟨c0, c1, c2, c3, c4, c5, c6, c7⟩, _, cl⟩ := (hC.out _ hb1).cells
  go_wp2_with fail
  refine (hc.out _).mono ?_
  rintro e w2 ⟨hQ, hb2⟩
  have hB := hb0.trans ((hb1.trans (hb2.mono hz1)).mono hzw)
  obtain ⟨v1, v2, rfl⟩ := hcase.out _ _ _ hQ
  replace hQ := Lib.hid hQ
  clear hb0 hb1 hb2 c0 c1 c2 c3 c4 c5 c6 c7 cl
  go_wp2_with fail
  go_ret2
  exact ⟨⟨_, by omega, hQ.out⟩, hB⟩

theorem l10Quad_yes (p : Nat) (q : Qd) (hq : q.ok) (w : World) (hp : QB w p q) : Calls Try.prog 56 #[.pointer (some ⟨p, 0, none⟩)] w fun e w' => e = .returned (.bool true) ∧ Below w.heap.size w w' := by
  have j1 := Lib.hid (fun W => l03Ok_yes q.ax q.ay hq.1 W)
  have j2 := Lib.hid (fun W => l03Ok_yes q.bx q.b hq.2.1 W)
  have j3 := Lib.hid (fun W => l03Ok_yes q.cx q.cy hq.2.2 W)
  have hpB := Lib.hid (fun W (hb : Below w.heap.size w W) => QB.below hp hb)
  have hl := hp.lt
  clear hq hp
  obtain ⟨ax, ay, bx, b, cx, cy⟩ := q
  simp only at j1 j2 j3
  obtain ⟨k0, k1, k2, k3, k4, k5⟩ := (hpB.out w (Below.refl _ _)).cells
  simp only at k0 k1 k2 k3 k4 k5
  go_enter Try.func56, Try.ntmps56
  go_wp2_with fail
  refine (j1.out _).mono ?_
  rintro e w1 ⟨rfl, hb1⟩
  have hz1 := hb1.size
  have hl1 : p < w1.heap.size := by omega
  clear k0 k1 k2 k3 k4 k5
  obtain ⟨k0, k1, k2, k3, k4, k5⟩ := (hpB.out w1 hb1).cells
  simp only at k0 k1 k2 k3 k4 k5
  go_wp2_with fail
  refine (j2.out _).mono ?_
  rintro e w2 ⟨rfl, hb2⟩
  replace hb2 := hb1.trans (hb2.mono hz1)
  have hz2 := hb2.size
  have hl2 : p < w2.heap.size := by omega
  clear k0 k1 k2 k3 k4 k5 hb1
  obtain ⟨k0, k1, k2, k3, k4, k5⟩ := (hpB.out w2 hb2).cells
  simp only at k0 k1 k2 k3 k4 k5
  go_wp2_with fail
  refine (j3.out _).mono ?_
  rintro e w3 ⟨rfl, hb3⟩
  replace hb3 := hb2.trans (hb3.mono hz2)
  clear k0 k1 k2 k3 k4 k5 hb2
  go_wp2_with fail
  go_ret
  exact ⟨rfl, hb3⟩
abbrev qdV (q : Qd) : Value := .agg #[.int .i64 q.ax, .int .i64 q.ay, .int .i64 q.bx, .int .i64 q.b, .int .i64 q.cx, .int .i64 q.cy]
def FlatQ (q : Qd) (w : World) (e : Ending) (w' : World) : Prop :=
  (lvl (bendQ q) = none ∧ e = .returned (.tuple #[.slice none 0 0, .int .i64 5])) ∨
  ∃ (l : Nat) (A : Option Addr) (c : Nat), lvl (bendQ q) = some l ∧ e = .returned (.tuple #[.slice A (2 ^ l + 1) c, .int .i64 0]) ∧ RdS 2 (FlatR ptC) w' w.heap.size w'.heap.size A (2 ^ l + 1) (flatL q (2 ^ l))
set_option maxHeartbeats 2000000 in
theorem FlattenQuad_any (q : Qd) (hq : q.ok) (w : World) : Calls Try.prog 36 #[qdV q, .int .i64 1] w fun e w' => FlatQ q w e w' ∧ Below w.heap.size w w' := by
  have hok := Lib.hid (fun W p hp => l10Quad_yes p q hq W hp)
  have ht := Lib.hid (fun W => l09Tol_yes 1 W (by omega) (by omega))
  have hfl := Lib.hid (fun W p hp => l10Flat_any p q hq W hp)
  have hfin : Hid (∀ e w', FlatQ q w e w' → FlatQ q w e w') := Lib.hid fun _ _ h => h
  obtain ⟨R, hR⟩ : ∃ R, R = FlatQ q w := ⟨_, rfl⟩
  have hR2 : Hid (∀ e w', FlatQ q w e w' → R e w') := Lib.hid fun e w' h => by rw [hR]; exact h
  rw [← hR]
  clear hR hfin hq
  unfold FlatQ at hR2
  simp only [FlatTo] at hfl
  obtain ⟨B, hB⟩ : ∃ B, B = lvl (bendQ q) := ⟨_, rfl⟩
  obtain ⟨F, hF⟩ : ∃ F, F = flatL q := ⟨_, rfl⟩
  rw [← hB, ← hF] at hR2
  rw [← hB, ← hF] at hfl
  clear hB hF
  have hb0 := Go.Joins.below_alloc1 w (.cells #[.int .i64 q.ax, .int .i64 q.ay, .int .i64 q.bx, .int .i64 q.b, .int .i64 q.cx, .int .i64 q.cy] 48 (0, 0))
  have hQ0 : QB (w.alloc (.cells #[.int .i64 q.ax, .int .i64 q.ay, .int .i64 q.bx, .int .i64 q.b, .int .i64 q.cx, .int .i64 q.cy] 48 (0, 0))) w.heap.size q := heap_alloc_new w _
  obtain ⟨ax, ay, bx, b, cx, cy⟩ := q
  simp only at hb0 hQ0
  simp only [qdV]
  go_enter Try.func36, Try.ntmps36
  go_upto_region 1 with fail
  generalize w.alloc (.cells #[.int .i64 ax, .int .i64 ay, .int .i64 bx, .int .i64 b, .int .i64 cx, .int .i64 cy] 48 (0, 0)) = w0 at *
  have hzw := hb0.size
  replace hQ0 := Lib.hid hQ0
  go_wp2_with fail
  refine (hok.out w0 _ hQ0.out).mono ?_
  rintro e w1 ⟨rfl, hb1⟩
  have hz1 := hb1.size
  go_wp2_with fail
  refine (ht.out w1).mono ?_
  rintro e w' ⟨rfl, rfl⟩
  go_wp2_with fail
  refine (hfl.out _ _ (hQ0.out.below hb1)).mono ?_
  rintro e w2 hcase
  have hBw := hb0.trans (hb1.mono hzw)
  clear hb0 hb1 hok ht hfl hQ0
  rcases hcase with ⟨hno, rfl, hb2⟩ | ⟨l, A, c, hl, rfl, hrd, hb2⟩
  · have hB2 := hBw.trans (hb2.mono (by omega))
    replace hno := Lib.hid hno
    clear hb2 hBw
    go_wp2_with fail
    go_ret2
    exact ⟨hR2.out _ _ (.inl ⟨hno.out, rfl⟩), hB2⟩
  · have hB2 := hBw.trans (hb2.mono (by omega))
    have hrd' := Lib.hid (hrd.wide (good_flat _) (show w.heap.size ≤ _ by omega) (Nat.le_refl _))
    obtain ⟨m, hm⟩ : ∃ m, m = 2 ^ l + 1 := ⟨_, rfl⟩
    rw [← hm] at hrd' ⊢
    replace hm := Lib.hid hm
    replace hl := Lib.hid hl
    clear hb2 hBw hrd
    go_wp2_with fail
    go_ret2
    exact ⟨hR2.out _ _ (.inr ⟨l, A, c, hl.out, (show _ = Ending.returned (.tuple #[.slice A m c, .int .i64 0]) from rfl).trans (by rw [hm.out]), by rw [← hm.out]; exact hrd'.out⟩), hB2⟩
end Go.Proofs.Ytpmpbfkpiocleaa

/- The joined paths of quadratics. Conditions: as each states. -/
namespace Go.Proofs.Ytpmpbfkpiocleaa
open Go.RowKit
set_option linter.unusedVariables false
set_option maxRecDepth 100000

/-- the path of a quadratic -/
def pathQ (q : Qd) : List (Int × Int) := flatL q (2 ^ (lvl (bendQ q)).getD 0)
theorem ptC_one : ∀ a : Int × Int, ∀ u ∈ ptC a, u.oneCell' = true := by
  intro a u hu
  simp [ptC] at hu
  rcases hu with rfl | rfl <;> rfl
theorem qd_at {w : World} {lo hi n : Nat} {A : Option Addr} {L : List Qd} (h : RdS 6 (FlatR qdC) w lo hi A n L) {j : Nat} (hj : j < n) : ∃ b off x, A = some ⟨b, off, none⟩ ∧ lo ≤ b ∧ b < hi ∧ L[j]? = some x ∧ (w.cell? ⟨b, off + j * 6, none⟩ = some (.int .i64 x.ax) ∧ w.cell? ⟨b, off + j * 6 + 1, none⟩ = some (.int .i64 x.ay) ∧ w.cell? ⟨b, off + j * 6 + 2, none⟩ = some (.int .i64 x.bx) ∧ w.cell? ⟨b, off + j * 6 + 3, none⟩ = some (.int .i64 x.b) ∧ w.cell? ⟨b, off + j * 6 + 4, none⟩ = some (.int .i64 x.cx) ∧ w.cell? ⟨b, off + j * 6 + 5, none⟩ = some (.int .i64 x.cy)) := by
  obtain ⟨b, off, x, rfl, h1, h2, h3, h4⟩ := h.at hj
  exact ⟨b, off, x, rfl, h1, h2, h3, h4 0 _ rfl, h4 1 _ rfl, h4 2 _ rfl, h4 3 _ rfl, h4 4 _ rfl, h4 5 _ rfl⟩

def JoinTo (QL : List Qd) (w : World) (e : Ending) (w' : World) : Prop := ∃ (b : Bool) (A : Option Addr) (m c : Nat), e = .returned (.tuple #[.slice A m c, .bool b]) ∧ (b = true → 1 ≤ m ∧ m ≤ 400 ∧ (∀ x ∈ QL, ∃ l, lvl (bendQ x) = some l) ∧ RdS 2 (FlatR ptC) w' w.heap.size w'.heap.size A m (QL.flatMap pathQ))
set_option maxHeartbeats 8000000 in
theorem e8Joined_any (A : Option Addr) (n c lo hi : Nat) (QL : List Qd) (w : World) (hr : RdS 6 (FlatR qdC) w lo hi A n QL) (hhi : hi ≤ w.heap.size) (hok : ∀ x ∈ QL, x.ok) (hn : n ≤ 64) :
    Calls Try.prog 16 #[.slice A n c] w fun e w' => JoinTo QL w e w' ∧ Below w.heap.size w w' := by
  have hll := Lib.hid hr.1
  have hfl := Lib.hid (fun (x : Qd) (hx : x ∈ QL) W => FlattenQuad_any x (hok x hx) W)
  simp only [FlatQ] at hfl
  clear hok
  replace hr := Lib.hid hr
  have hR2 : Hid (∀ e w', JoinTo QL w e w' → JoinTo QL w e w') := Lib.hid fun _ _ h => h
  obtain ⟨R, hR⟩ : ∃ R, R = JoinTo QL w := ⟨_, rfl⟩
  replace hR2 : Hid (∀ e w', JoinTo QL w e w' → R e w') := Lib.hid fun e w' h => by rw [hR]; exact h
  rw [← hR]
  clear hR
  unfold JoinTo at hR2
  have hb0 := Go.Joins.below_alloc1 w (.cells #[] 24 (0, 0))
  have hown0 : (w.alloc (.cells #[] 24 (0, 0))).ownsRow w.heap.size 24 2 (.slice (some ⟨w.heap.size, 0, none⟩) 0 0) 0 [] := World.ownsRow_lit w #[] 0 (Nat.le_refl _) (by decide) (by simp)
  go_enter Try.func16, Try.ntmps16
  go_wp2_with fail
  go_loopw [4, 5] (fun out iv wr => ∃ (i m : Nat) (A' : Option Addr) (c' : Nat), iv = .int .i64 i ∧ i ≤ n ∧ out = .slice A' m c' ∧ m ≤ 65 * i ∧ wr.ownsRow w.heap.size 24 2 (.slice A' m c') m (((QL.take i).flatMap pathQ).flatMap ptC) ∧ m = ((QL.take i).flatMap pathQ).length ∧ (∀ x ∈ QL.take i, ∃ l, lvl (bendQ x) = some l) ∧ Below w.heap.size w wr) (fun out iv wr => n - (intOf iv).toNat)
  case atStart => exact ⟨0, 0, _, _, rfl, by omega, rfl, by omega, hown0, rfl, fun x hx => by simp at hx, hb0⟩
  case round =>
  clear hown0 hb0
  obtain ⟨i, m, A', c', rfl, hi', rfl, hm, hown, hml, hall, hbel⟩ := hrel
  generalize wr = xr at *
  have hzx := hbel.size
  replace hown := Lib.hid hown
  replace hall := Lib.hid hall
  replace hml := Lib.hid hml
  by_cases hlt : i < n
  · have hii : (i : Int) < (n : Int) := by omega
    have hi0 : (0 : Int) ≤ (i : Int) ∧ (i : Int) < (n : Int) := by omega
    obtain ⟨b, off, ⟨ax, ay, bx, ey, cx, cy⟩, rfl, hbl, hbh, hja, k0, k1, k2, k3, k4, k5⟩ := qd_at (hr.out.frame (good_flat _) (Below.sameB hbel hhi)) hlt
    simp only at k0 k1 k2 k3 k4 k5
    have hbx : b < xr.heap.size := by omega
    have hmem := List.mem_of_getElem? hja
    have hfq := Lib.hid (hfl.out _ hmem xr)
    simp only [qdV] at hfq
    replace hja := Lib.hid hja
    replace hmem := Lib.hid hmem
    have q1 : IntKind.i64.wrap ((i : Int) + 1) = ((i + 1 : Nat) : Int) := by rw [wi (by omega)]; omega
    go_wp2_with fail
    refine hfq.out.mono ?_
    rintro e y1 ⟨hcase, hb1⟩
    have hB1 := hbel.trans (hb1.mono hzx)
    have hz1 := hB1.size
    clear hfq k0 k1 k2 k3 k4 k5
    rcases hcase with ⟨hno, rfl⟩ | ⟨l, FA, fc, hl, rfl, hrd⟩
    · clear hno
      have hRr := hR2.out
      go_wp2_with fail
      go_ret2
      exact ⟨hRr _ _ ⟨false, none, 0, 0, rfl, fun h => by cases h⟩, hB1⟩
    · obtain ⟨M, hM⟩ : ∃ M, M = 2 ^ l + 1 := ⟨_, rfl⟩
      have hM65 : M ≤ 65 := by have := pow_lvl (lvl_lt hl) rfl; omega
      have hpq : pathQ ⟨ax, ay, bx, ey, cx, cy⟩ = flatL ⟨ax, ay, bx, ey, cx, cy⟩ (2 ^ l) := by unfold pathQ; rw [hl]; rfl
      rw [← hpq] at hrd
      rw [← hM] at hrd ⊢
      have hlen := hrd.1
      have hsrc := Lib.hid (src_rd ptC_len ptC_one hrd)
      have hown1 := Lib.hid (own_below hown.out hb1)
      have htk : QL.take (i + 1) = QL.take i ++ [⟨ax, ay, bx, ey, cx, cy⟩] := by rw [List.take_add_one, hja.out]; rfl
      replace htk := Lib.hid htk
      replace hl := Lib.hid hl
      replace hlen := Lib.hid hlen
      clear hM hpq hrd hb1
      go_wp2_with (at_builtin; refine wpApp rfl (.tmp 25) (.tmp 26) elemPt rfl (v := .slice A' m c') (n := m) (xs := ((QL.take i).flatMap pathQ).flatMap ptC) rfl hown1.out rfl hsrc.out (by omega) (by omega) (by omega) (m + M) rfl ?_; intro A9 c9 w9 ho9 hb9; replace ho9 := Lib.hid ho9)
      go_roundw
      case rel =>
        refine ⟨i + 1, m + M, A9, c9, by go_num, by omega, by rfl, by omega, ?_, ?_, ?_, hB1.trans hb9⟩
        · have h := ho9.out
          rw [htk.out, List.flatMap_append, List.flatMap_append]
          simpa using h
        · rw [htk.out, List.flatMap_append, List.length_append, ← hml.out]
          simp [hlen.out]
        · intro x hx
          rw [htk.out] at hx
          rcases List.mem_append.1 hx with h | h
          · exact hall.out x h
          · simp at h
            subst h
            exact ⟨l, hl.out⟩
      case measure => simp [intOf]; omega
  · have hin : i = n := by omega
    subst hin
    have hii : ¬ (i : Int) < (i : Int) := by omega
    have htake : QL.take i = QL := List.take_of_length_le (by rw [hll.out]; exact Nat.le_refl _)
    rw [htake] at hown hall hml
    have hRr := hR2.out
    by_cases hm0 : 0 < m
    · have hm0' : (0 : Int) < (m : Int) := by omega
      by_cases hm4 : m ≤ 400
      · have hm4' : (m : Int) ≤ 400 := by omega
        go_wp2_with fail
        go_ret2
        exact ⟨hRr _ _ ⟨true, A', m, c', rfl, fun _ => ⟨by omega, hm4, hall.out, rdS_own ptC_len (by omega) hown.out hml.out.symm⟩⟩, hbel⟩
      · have hm4' : ¬ (m : Int) ≤ 400 := by omega
        go_wp2_with fail
        go_ret2
        exact ⟨hRr _ _ ⟨false, A', m, c', rfl, fun h => by cases h⟩, hbel⟩
    · have hm0' : ¬ (0 : Int) < (m : Int) := by omega
      go_wp2_with fail
      go_ret2
      exact ⟨hRr _ _ ⟨false, A', m, c', rfl, fun h => by cases h⟩, hbel⟩
end Go.Proofs.Ytpmpbfkpiocleaa

/- What FnConversion says of numbers: the joined paths are near all points of the cubic; the quadratics follow one another. Conditions: none. -/
namespace Go.Proofs.Ytpmpbfkpiocleaa
open Go.RowKit
set_option linter.unusedVariables false
set_option maxRecDepth 100000

theorem quad_ok {q : Cb} (hq : q.ok) {k n : Nat} (hk : k < n) (h : ptOk (quadC q k n).bx (quadC q k n).b = true) : (quadC q k n).ok := by
  have h1 := cAt_ok hq (k := (k : Int)) (n := (n : Int)) (by omega) (by omega) (by omega)
  have h2 := cAt_ok hq (k := (k : Int) + 1) (n := (n : Int)) (by omega) (by omega) (by omega)
  exact ⟨h1, h, h2⟩
theorem flatL_at (x : Qd) {n j : Nat} (hj : j ≤ n) : (flatL x n)[j]? = some (qAtI x (j : Int) (n : Int)) := by
  unfold flatL
  rw [List.getElem?_map, List.getElem?_range (by omega)]
  rfl
theorem join_at {QL : List Qd} {k : Nat} {x : Qd} (hk : QL[k]? = some x) {j : Nat} {p : Int × Int} (hj : (pathQ x)[j]? = some p) : (QL.flatMap pathQ)[((QL.take k).flatMap pathQ).length + j]? = some p := by
  have hkl := (List.getElem?_eq_some_iff.1 hk).1
  have hjl := (List.getElem?_eq_some_iff.1 hj).1
  have e : QL = QL.take k ++ x :: QL.drop (k + 1) := by
    have hx : QL[k] = x := (List.getElem?_eq_some_iff.1 hk).2
    have h1 := List.take_append_drop k QL
    rw [List.drop_eq_getElem_cons hkl, hx] at h1
    exact h1.symm
  have e2 : QL.flatMap pathQ = (QL.take k).flatMap pathQ ++ (pathQ x ++ (QL.drop (k + 1)).flatMap pathQ) := by
    rw [← List.flatMap_cons, ← List.flatMap_append, ← e]
  rw [e2, List.getElem?_append_right (Nat.le_add_right _ _), Nat.add_sub_cancel_left, List.getElem?_append_left hjl]
  exact hj
/-- a part, and what is left of it -/
theorem split_part {K n m : Nat} (hK : K ≤ m) (hn : 0 < n) (hm : 0 < m) : ∃ k r : Nat, k < n ∧ r ≤ m ∧ K * n = k * m + r := by
  rcases Nat.lt_or_ge K m with h | h
  · refine ⟨K * n / m, K * n % m, ?_, Nat.le_of_lt (Nat.mod_lt _ hm), ?_⟩
    · rw [Nat.div_lt_iff_lt_mul hm, Nat.mul_comm]
      exact Nat.mul_lt_mul_of_pos_left h hn
    · rw [Nat.mul_comm (K * n / m)]; exact (Nat.div_add_mod _ _).symm
  · have : K = m := by omega
    subst this
    refine ⟨n - 1, K, by omega, Nat.le_refl _, ?_⟩
    obtain ⟨n', rfl⟩ : ∃ n', n = n' + 1 := ⟨n - 1, by omega⟩
    rw [Nat.add_sub_cancel, Nat.mul_succ, Nat.mul_comm n']
theorem lvl_is {b : Int} {l : Nat} (h : lvl b = some l) : b ≤ 4 * 4 ^ l := by
  have h1 := List.find?_some h
  simpa [lvlOk] using h1
theorem pow_n3 (l : Nat) : (8 : Int) ^ l = ((2 ^ l : Nat) : Int) * ((2 ^ l : Nat) : Int) * ((2 ^ l : Nat) : Int) := by
  rw [Int.natCast_pow, show ((2 : Nat) : Int) = 2 from rfl, ← Int.mul_pow, ← Int.mul_pow]; rfl
theorem conv_law {q : Cb} (hq : q.ok) {T : Int} {l n : Nat} (hl : IsLq (thirdC q) T l) (hn : n = 2 ^ l) (hT0 : 1 ≤ T) (hT1 : T ≤ 200000) (hgood : ∀ j, j < n → ptOk (quadC q j n).bx (quadC q j n).b = true)
    (hlv : ∀ x ∈ quadsL q n, ∃ l, lvl (bendQ x) = some l) (hlen : 1 ≤ ((quadsL q n).flatMap pathQ).length ∧ ((quadsL q n).flatMap pathQ).length ≤ 400) {K : Nat} (hK : K ≤ 64) :
    nearOk ((quadsL q n).flatMap pathQ) (cAt q K 64).1 (cAt q K 64).2 (T + 5) = true := by
  obtain ⟨hl6, hl0, _⟩ := hl
  obtain ⟨hn0, hn64⟩ := pow_lvl (l := l) (by omega) hn
  rw [pow_n3, ← hn] at hl0
  have hpt : ptOk (cAt q K 64).1 (cAt q K 64).2 = true := cAt_ok hq (by omega) (by omega) (by omega)
  have hr : inB (T + 5) 0 262144 = true := inB_iff.2 (by omega)
  have hp : pathOk ((quadsL q n).flatMap pathQ) = true := by
    unfold pathOk
    rw [Bool.and_eq_true]
    refine ⟨inB_iff.2 (by omega), List.all_eq_true.2 fun p hp => ?_⟩
    obtain ⟨x, hx, hpx⟩ := List.mem_flatMap.1 hp
    obtain ⟨l', hl'⟩ := hlv x hx
    unfold quadsL at hx
    obtain ⟨k, hk, rfl⟩ := List.mem_map.1 hx
    have hkn := List.mem_range.1 hk
    have hok := quad_ok hq hkn (hgood k hkn)
    unfold pathQ flatL at hpx
    obtain ⟨j, hj, rfl⟩ := List.mem_map.1 hpx
    have hjn := List.mem_range.1 hj
    exact qAt_ok hok (by omega) (Nat.two_pow_pos _)
  obtain ⟨k, r, hk, hr64, hkr⟩ := split_part (K := K) (n := n) (m := 64) hK hn0 (by omega)
  have hxk := quadsL_at q hk
  obtain ⟨l', hl'⟩ := hlv _ (List.mem_of_getElem? hxk)
  have hb := lvl_is hl'
  rw [pow_four] at hb
  have hm0 : 0 < 2 ^ l' := Nat.two_pow_pos _
  have hpq : pathQ (quadC q (k : Int) (n : Int)) = flatL (quadC q (k : Int) (n : Int)) (2 ^ l') := by unfold pathQ; rw [hl']; rfl
  generalize 2 ^ l' = n' at *
  obtain ⟨j, i, hj, hi64, hji⟩ := split_part (K := r) (n := n') (m := 64) hr64 hm0 (by omega)
  have hnear := conv_near (c := q) (n := n) (k := k) (T := T) (n' := n') (m := 64) (j := j) (i := i) (by omega) (by omega) (by omega) (by omega) (by omega) (by omega) (by omega) (by omega) hl0 hb
  have hn0' : (0 : Int) < (n : Int) * (n' : Int) := Int.mul_pos (by omega) (by omega)
  have e1 : ((k : Int) * ((n' : Int) * 64) + ((j : Int) * 64 + (i : Int))) = (K : Int) * ((n : Int) * n') := by
    have a1 := congrArg (fun x : Nat => (x : Int)) hkr
    have a2 := congrArg (fun x : Nat => (x : Int)) hji
    simp only [Int.natCast_mul, Int.natCast_add] at a1 a2
    have a3 : (K : Int) * ((n : Int) * n') = ((K : Int) * n) * n' := by rw [Int.mul_assoc]
    rw [a3, a1, Int.add_mul]
    have a4 : (k : Int) * ((64 : Nat) : Int) * n' = (k : Int) * ((n' : Int) * 64) := by grind
    rw [a4, a2]
    omega
  have e2 : (n : Int) * ((n' : Int) * 64) = 64 * ((n : Int) * n') := by grind
  rw [e1, e2, cAt_scale q (by omega) hn0'] at hnear
  unfold nearOk
  rw [hp, hpt, hr]
  have h1 := join_at hxk (j := j) (p := qAtI (quadC q k n) j n') (by rw [hpq]; exact flatL_at _ (by omega))
  have h2 := join_at hxk (j := j + 1) (p := qAtI (quadC q k n) ((j + 1 : Nat) : Int) n') (by rw [hpq]; exact flatL_at _ (by omega))
  rw [show ((j + 1 : Nat) : Int) = (j : Int) + 1 by omega] at h2
  exact nearP_yes h1 (by simpa [Nat.add_assoc] using h2) hnear
theorem quads_first (q : Cb) {n : Nat} (hn : 0 < n) : ∃ x, (quadsL q n)[0]? = some x ∧ x.ax = q.ax ∧ x.ay = q.ay := by
  refine ⟨_, quadsL_at q hn, ?_, ?_⟩
  · exact mixC_at0 _ _ _ _ (by omega)
  · exact mixC_at0 _ _ _ _ (by omega)
theorem quads_last (q : Cb) {n : Nat} (hn : 0 < n) : ∃ x, (quadsL q n)[n - 1]? = some x ∧ x.cx = q.dx ∧ x.cy = q.dy := by
  refine ⟨_, quadsL_at q (by omega), ?_, ?_⟩
  · show mixC _ _ _ _ (((n - 1 : Nat) : Int) + 1) _ = _
    rw [show ((n - 1 : Nat) : Int) + 1 = (n : Int) by omega]
    exact mixC_at1 _ _ _ _ (by omega)
  · show mixC _ _ _ _ (((n - 1 : Nat) : Int) + 1) _ = _
    rw [show ((n - 1 : Nat) : Int) + 1 = (n : Int) by omega]
    exact mixC_at1 _ _ _ _ (by omega)
theorem quads_next (q : Cb) {n i : Nat} (hi : i + 1 < n) : ∃ x y, (quadsL q n)[i]? = some x ∧ (quadsL q n)[i + 1]? = some y ∧ x.cx = y.ax ∧ x.cy = y.ay := by
  refine ⟨_, _, quadsL_at q (by omega), quadsL_at q hi, ?_, ?_⟩
  · show mixC _ _ _ _ ((i : Int) + 1) _ = mixC _ _ _ _ (((i + 1 : Nat) : Int)) _
    rw [show ((i + 1 : Nat) : Int) = (i : Int) + 1 by omega]
  · show mixC _ _ _ _ ((i : Int) + 1) _ = mixC _ _ _ _ (((i + 1 : Nat) : Int)) _
    rw [show ((i + 1 : Nat) : Int) = (i : Int) + 1 by omega]
theorem quads_all_ok {q : Cb} (hq : q.ok) {n : Nat} (hgood : ∀ j, j < n → ptOk (quadC q j n).bx (quadC q j n).b = true) : ∀ x ∈ quadsL q n, x.ok := by
  intro x hx
  unfold quadsL at hx
  obtain ⟨k, hk, rfl⟩ := List.mem_map.1 hx
  have hkn := List.mem_range.1 hk
  exact quad_ok hq hkn (hgood k hkn)
end Go.Proofs.Ytpmpbfkpiocleaa

