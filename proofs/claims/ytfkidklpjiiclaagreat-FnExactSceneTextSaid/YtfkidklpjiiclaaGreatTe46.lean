/- The text of a scene, both sides. Printed by mk_vt.py. Conditions: as each states. -/
import Derived.Deep.RegionHeld3
import Derived.Test.YtfkidklpjiiclaaGreatTe45
import Derived.Test.YtfkidklpjiiclaaGreatTe36
import Derived.Test.YtfkidklpjiiclaaGreatTe37
namespace Go.Proofs.YtfkidklpjiiclaaGreat
open Go.RowKit
set_option linter.unusedVariables false
set_option maxRecDepth 100000

theorem dec_sz {n : Int} (h1 : 0 ≤ n) (h2 : n ≤ 1048576) : (decS n).size ≤ 20 := by
  have := decL_len (n := n) (by omega) (by omega)
  simpa [decS, ByteArray.size] using this
/-- the rows whose value is known -/
def cntK (L : List RowD) : Nat := L.countP (fun r => r.L.length == 0)
theorem cntK_next {L : List RowD} {k : Nat} {r : RowD} (h : L[k]? = some r) : cntK (L.take (k + 1)) = cntK (L.take k) + if r.L.length = 0 then 1 else 0 := by
  have hl := (List.getElem?_eq_some_iff.1 h).1
  rw [List.getElem?_eq_getElem hl] at h; injection h with h
  unfold cntK
  rw [List.take_succ_eq_append_getElem hl, List.countP_append, h, List.countP_singleton]
  simp
theorem cntK_le (L : List RowD) (k : Nat) : cntK (L.take k) ≤ k := by
  unfold cntK
  exact Nat.le_trans List.countP_le_length (by rw [List.length_take]; omega)
abbrev wK : ByteArray := ⟨#[107, 110, 111, 119, 110]⟩
abbrev wP : ByteArray := ⟨#[32, 112, 101, 110, 115]⟩
abbrev wQ : ByteArray := ⟨#[32, 112, 97, 116, 104, 115]⟩
abbrev wG : ByteArray := ⟨#[32, 103, 108, 121, 112, 104, 115]⟩
abbrev wR : ByteArray := ⟨#[32, 114, 105, 110, 103, 115]⟩
abbrev wS : ByteArray := ⟨#[32]⟩
def cText (word : ByteArray) (n : Nat) : ByteArray := (word ++ wS) ++ decS n
theorem cText_sz {word : ByteArray} {n : Nat} (h : word.size ≤ 10) (hn : n ≤ 1048576) : (cText word n).size ≤ 31 := by
  have := dec_sz (n := n) (by omega) (by omega)
  unfold cText
  simp only [ByteArray.size_append]
  have : wS.size = 1 := rfl
  omega
def scText (a b c d e : Nat) : ByteArray := (((cText wK a ++ cText wP b) ++ cText wQ c) ++ cText wG d) ++ cText wR e
theorem scText_spec (a b c d e : Nat) : (((((((((⟨#[107, 110, 111, 119, 110, 32]⟩ : ByteArray) ++ decS a) ++ ⟨#[32, 112, 101, 110, 115, 32]⟩) ++ decS b) ++ ⟨#[32, 112, 97, 116, 104, 115, 32]⟩) ++ decS c) ++ ⟨#[32, 103, 108, 121, 112, 104, 115, 32]⟩) ++ decS d) ++ ⟨#[32, 114, 105, 110, 103, 115, 32]⟩) ++ decS e = scText a b c d e := by
  unfold scText cText decS
  simp only [ByteArray.mk_append_mk, List.append_assoc, List.cons_append, List.nil_append]
def sceneS (d : ScD) : ByteArray := if sceneB d = true then scText (cntK d.rows) d.pens.length d.paths.length d.set.gl.length d.shape.length else ⟨#[]⟩

theorem countText_any (word : ByteArray) (n : Nat) (w : World) (h : word.size ≤ 10) (hn : n ≤ 1048576) :
    Calls Tryz.prog 42 #[.string word, .int .i64 n] w fun e w' => e = .returned (.string (cText word n)) ∧ Below w.heap.size w w' := by
  have hd := dec_sz (n := n) (by omega) (by omega)
  have hc := Lib.hid (fun W => implDec_any n W (by omega) (by omega))
  have hws : (⟨#[32]⟩ : ByteArray).size = 1 := rfl
  go_enter Tryz.func42, Tryz.ntmps42
  go_wp2_with fail
  refine (hc.out _).mono ?_
  rintro e w1 ⟨rfl, hb1⟩
  go_wp2_with fail
  go_ret
  exact ⟨rfl, hb1⟩

set_option maxHeartbeats 16000000 in
theorem specSceneText_any (d : ScD) (h : ScH) (t : ByteArray) (ht : t = sceneS d) (lo hi : Nat) (w : World) (hr : ScRd w lo hi d h) (hhi : hi ≤ w.heap.size) (hm : d.small 1048576) (hs : d.str) :
    Calls Tryz.prog 10 #[scV d h] w fun e w' => e = .returned (.string t) ∧ Below w.heap.size w w' := by
  obtain ⟨⟨rA, rn, rc⟩, ⟨pA, pn, pc⟩, ⟨qA, qn, qc⟩, hS, hN, ⟨gA, gn, gc⟩⟩ := h
  have hr0 : rowsRd w lo hi rA rn d.rows := hr.1
  have l0 := hr0.1
  have l1 : d.pens.length = pn := hr.2.1.1
  have l2 : d.paths.length = qn := hr.2.2.1.1
  have l3 : d.set.gl.length = hS.gl.n := hr.2.2.2.1.1
  have l5 : d.shape.length = gn := hr.2.2.2.2.2.1
  have m0 : rn ≤ 1048576 := by rw [← l0]; exact hm.rows.1
  have m1 : pn ≤ 1048576 := by rw [← l1]; exact hm.pens.1
  have m2 : qn ≤ 1048576 := by rw [← l2]; exact hm.paths.1
  have m3 : hS.gl.n ≤ 1048576 := by rw [← l3]; exact hm.set.l
  have m5 : gn ≤ 1048576 := by rw [← l5]; exact hm.shape.1
  obtain ⟨tB, hB⟩ : ∃ u, u = sceneB d := ⟨_, rfl⟩
  unfold sceneS at ht
  rw [← hB, l1, l2, l3, l5] at ht
  replace ht := Lib.hid ht
  replace l0 := Lib.hid l0
  clear l1 l2 l3 l5
  have hB0 := Go.Joins.below_alloc1 w (.cells #[.slice rA rn rc, .slice pA pn pc, .slice qA qn qc, .int .i64 d.set.unit, .slice hS.gl.A hS.gl.n hS.gl.c, .bool d.isOpen, .string d.now.name, .int .i64 d.now.code, .int .i64 d.now.adv, .slice hN.out.A hN.out.n hN.out.c, .slice hN.parts.A hN.parts.n hN.parts.c, .slice hN.anchors.A hN.anchors.n hN.anchors.c, .string d.now.hints, .slice gA gn gc] 63 (0, 0))
  have hx0 := boxC_new (d := d) (h := ⟨⟨rA, rn, rc⟩, ⟨pA, pn, pc⟩, ⟨qA, qn, qc⟩, hS, hN, ⟨gA, gn, gc⟩⟩) (heap_alloc_new w (.cells #[.slice rA rn rc, .slice pA pn pc, .slice qA qn qc, .int .i64 d.set.unit, .slice hS.gl.A hS.gl.n hS.gl.c, .bool d.isOpen, .string d.now.name, .int .i64 d.now.code, .int .i64 d.now.adv, .slice hN.out.A hN.out.n hN.out.c, .slice hN.parts.A hN.parts.n hN.parts.c, .slice hN.anchors.A hN.anchors.n hN.anchors.c, .string d.now.hints, .slice gA gn gc] 63 (0, 0))) rfl
  have hl0 : w.heap.size < (w.alloc (.cells #[.slice rA rn rc, .slice pA pn pc, .slice qA qn qc, .int .i64 d.set.unit, .slice hS.gl.A hS.gl.n hS.gl.c, .bool d.isOpen, .string d.now.name, .int .i64 d.now.code, .int .i64 d.now.adv, .slice hN.out.A hN.out.n hN.out.c, .slice hN.parts.A hN.parts.n hN.parts.c, .slice hN.anchors.A hN.anchors.n hN.anchors.c, .string d.now.hints, .slice gA gn gc] 63 (0, 0))).heap.size := by simp
  have hcv := Lib.hid (l08Ok_any w.heap.size d ⟨⟨rA, rn, rc⟩, ⟨pA, pn, pc⟩, ⟨qA, qn, qc⟩, hS, hN, ⟨gA, gn, gc⟩⟩ tB hB lo hi (w.alloc (.cells #[.slice rA rn rc, .slice pA pn pc, .slice qA qn qc, .int .i64 d.set.unit, .slice hS.gl.A hS.gl.n hS.gl.c, .bool d.isOpen, .string d.now.name, .int .i64 d.now.code, .int .i64 d.now.adv, .slice hN.out.A hN.out.n hN.out.c, .slice hN.parts.A hN.parts.n hN.parts.c, .slice hN.anchors.A hN.anchors.n hN.anchors.c, .string d.now.hints, .slice gA gn gc] 63 (0, 0))) hl0 hx0 (hr.frame (Below.sameB hB0 hhi)) (Nat.le_trans hhi hB0.size) hm hs)
  replace hx0 := Lib.hid hx0
  replace hr0 := Lib.hid hr0
  replace hB := Lib.hid hB
  clear hr hm hs
  go_enter Tryz.func10, Tryz.ntmps10
  go_wp2_with fail
  refine hcv.out.mono ?_
  rintro e w1 ⟨rfl, hb1⟩
  have hB1 := hB0.trans (hb1.mono hB0.size)
  have hx1 := Lib.hid (hx0.out.below hb1 hl0)
  have hl1 : w.heap.size < w1.heap.size := Nat.lt_of_lt_of_le hl0 hb1.size
  clear hb1 hx0 hl0 hB0 hcv
  cases tB with
  | false =>
    have htf : t = ⟨#[]⟩ := by rw [ht.out]; rfl
    subst htf
    go_wp2_with fail
    go_ret
    exact ⟨rfl, hB1⟩
  | true =>
  have htt : t = scText (cntK d.rows) pn qn hS.gl.n gn := by rw [ht.out]; rfl
  replace htt := Lib.hid htt
  clear ht
  have z0 : w1.cell? ⟨w.heap.size, 0, none⟩ = some (.slice rA rn rc) := hx1.out.1
  go_wp2_with fail
  clear z0
  go_loopw [3, 4] (fun kn i wr => ∃ k : Nat, i = .int .i64 k ∧ kn = .int .i64 (cntK (d.rows.take k)) ∧ k ≤ rn ∧ BoxC wr w.heap.size d ⟨⟨rA, rn, rc⟩, ⟨pA, pn, pc⟩, ⟨qA, qn, qc⟩, hS, hN, ⟨gA, gn, gc⟩⟩ ∧ w.heap.size < wr.heap.size ∧ Below w.heap.size w wr) (fun kn i wr => rn - (intOf i).toNat)
  case atStart => exact ⟨0, rfl, rfl, Nat.zero_le _, hx1.out, hl1, hB1⟩
  case round =>
  obtain ⟨k, rfl, rfl, hk, hbox, hxl, hbel⟩ := hrel
  replace hbox := Lib.hid hbox
  have hsz := hbel.size
  have z0 : wr.cell? ⟨w.heap.size, 0, none⟩ = some (.slice rA rn rc) := hbox.out.1
  have hck := cntK_le d.rows k
  by_cases hlt : k < rn
  · obtain ⟨b1, f1, ⟨x0, x1, x2, K1⟩, ⟨A1, n1, c1⟩, hAe, hba, hbx, hja, hcs, hr1p⟩ := row_at (hr0.out.frame good_row (Below.sameB hbel hhi)) hlt
    subst hAe
    have q0 := hcs 0 _ rfl
    have q1 := hcs 1 _ rfl
    have q2 := hcs 2 _ rfl
    have q3 := hcs 3 _ rfl
    simp only [Nat.add_zero] at q0 q1 q2 q3
    have hbw : b1 < wr.heap.size := by omega
    have hki : (0 : Int) ≤ (k : Int) ∧ (k : Int) < (rn : Int) := by omega
    have hnx := cntK_next hja
    simp only at hnx
    rw [show K1.length = n1 from hr1p.1] at hnx
    obtain ⟨kn, hkn⟩ : ∃ u, u = cntK (d.rows.take k) := ⟨_, rfl⟩
    rw [← hkn] at hnx hck ⊢
    replace hkn := Lib.hid hkn
    have hkw : IntKind.i64.wrap ((kn : Int) + 1) = (kn : Int) + 1 := IntWalk.i64_in _ (by omega)
    clear hcs hja hr1p
    by_cases hz : n1 = 0
    · subst hz
      have hnx' : cntK (d.rows.take (k + 1)) = kn + 1 := by rw [hnx]; simp
      clear hnx
      replace hnx' := Lib.hid hnx'
      go_wp2_with fail
      go_roundw
      case rel => exact ⟨k + 1, by go_num, by rw [hnx'.out]; go_num, by omega, hbox.out, hxl, hbel⟩
      case measure => simp [intOf]; omega
    · have hnx' : cntK (d.rows.take (k + 1)) = kn := by rw [hnx, if_neg hz]; rfl
      have hz2 : ((n1 : Int) == 0) = false := by simp [hz]
      have hz3 : ¬ (n1 : Int) = 0 := by omega
      clear hnx
      replace hnx' := Lib.hid hnx'
      go_wp2_with fail
      go_roundw
      case rel => exact ⟨k + 1, by go_num, by rw [hnx'.out], by omega, hbox.out, hxl, hbel⟩
      case measure => simp [intOf]; omega
  · have hkk : k = rn := by omega
    have hcw : cntK (d.rows.take k) = cntK d.rows := by rw [List.take_of_length_le (by rw [l0.out]; omega)]
    rw [hcw] at hck ⊢
    obtain ⟨kn, hkn⟩ : ∃ u, u = cntK d.rows := ⟨_, rfl⟩
    rw [← hkn] at hck htt ⊢
    clear hcw
    replace hkn := Lib.hid hkn
    replace hkk := Lib.hid hkk
    go_wp2_with fail
    clear z0
    have g1 : wr.cell? ⟨w.heap.size, 1, none⟩ = some (.slice pA pn pc) := hbox.out.2.1
    have g2 : wr.cell? ⟨w.heap.size, 2, none⟩ = some (.slice qA qn qc) := hbox.out.2.2.1
    have g4 : wr.cell? ⟨w.heap.size, 4, none⟩ = some (.slice hS.gl.A hS.gl.n hS.gl.c) := hbox.out.2.2.2.2.1
    have g6 : wr.cell? ⟨w.heap.size, 13, none⟩ = some (.slice gA gn gc) := hbox.out.2.2.2.2.2.2.2.2.2.2.2.2.2
    have u1 := fun dr os => cell_regrown g1 dr os
    have u2 := fun dr os => cell_regrown g2 dr os
    have u4 := fun dr os => cell_regrown g4 dr os
    have u6 := fun dr os => cell_regrown g6 dr os
    have hkm : kn ≤ 1048576 := by omega
    have hs0 := dec_sz (n := (kn : Int)) (by omega) (by omega)
    have hc0 := Lib.hid (fun dr os => Calls.regrown_of (l01Dec_any (kn : Int) (Go.Sort.grow (redrawn wr dr) os) (by omega) (by omega)))
    have hs1 := dec_sz (n := (pn : Int)) (by omega) (by omega)
    have hc1 := Lib.hid (fun dr os => Calls.regrown_of (l01Dec_any (pn : Int) (Go.Sort.grow (redrawn wr dr) os) (by omega) (by omega)))
    have hs2 := dec_sz (n := (qn : Int)) (by omega) (by omega)
    have hc2 := Lib.hid (fun dr os => Calls.regrown_of (l01Dec_any (qn : Int) (Go.Sort.grow (redrawn wr dr) os) (by omega) (by omega)))
    have hs3 := dec_sz (n := (hS.gl.n : Int)) (by omega) (by omega)
    have hc3 := Lib.hid (fun dr os => Calls.regrown_of (l01Dec_any (hS.gl.n : Int) (Go.Sort.grow (redrawn wr dr) os) (by omega) (by omega)))
    have hs4 := dec_sz (n := (gn : Int)) (by omega) (by omega)
    have hc4 := Lib.hid (fun dr os => Calls.regrown_of (l01Dec_any (gn : Int) (Go.Sort.grow (redrawn wr dr) os) (by omega) (by omega)))
    have hb0 : (⟨#[107, 110, 111, 119, 110, 32]⟩ : ByteArray).size = 6 := rfl
    have hb1 : (⟨#[32, 112, 101, 110, 115, 32]⟩ : ByteArray).size = 6 := rfl
    have hb2 : (⟨#[32, 112, 97, 116, 104, 115, 32]⟩ : ByteArray).size = 7 := rfl
    have hb3 : (⟨#[32, 103, 108, 121, 112, 104, 115, 32]⟩ : ByteArray).size = 8 := rfl
    have hb4 : (⟨#[32, 114, 105, 110, 103, 115, 32]⟩ : ByteArray).size = 7 := rfl
    refine wp_region_quiet_below (by kernel_rfl) (by kernel_rfl) ?_
    repeat (go_big_quiet_step (first | (with_reducible exact hc0.out _ _) | (with_reducible exact hc1.out _ _) | (with_reducible exact hc2.out _ _) | (with_reducible exact hc3.out _ _) | (with_reducible exact hc4.out _ _)))
    refine wpQuiet_nil ?_
    intro _ hw'
    obtain ⟨⟨dq, osq⟩, hw''⟩ := hw'
    subst hw''
    have hb9 := hbel.trans ((below_regrown wr dq osq).mono hsz)
    generalize Go.Sort.grow (redrawn wr dq) osq = W9 at hb9 ⊢
    go_wp2_with fail
    go_ret
    exact ⟨ret_string (by rw [htt.out]; exact scText_spec kn pn qn hS.gl.n gn), hb9⟩

set_option maxHeartbeats 16000000 in
theorem implSceneText_any (d : ScD) (h : ScH) (t : ByteArray) (ht : t = sceneS d) (lo hi : Nat) (w : World) (hr : ScRk w lo hi d h) (hhi : hi ≤ w.heap.size) (hm : d.small 1048576) (hs : d.str) (hcp : ScCap h) :
    Calls Tryz.prog 11 #[scV d h] w fun e w' => e = .returned (.string t) ∧ Below w.heap.size w w' := by
  obtain ⟨⟨rA, rn, rc⟩, ⟨pA, pn, pc⟩, ⟨qA, qn, qc⟩, hS, hN, ⟨gA, gn, gc⟩⟩ := h
  have hr0 : rowsRd w lo hi rA rn d.rows := hr.1
  have l0 := hr0.1
  have l1 : d.pens.length = pn := hr.2.1.1
  have l2 : d.paths.length = qn := hr.2.2.1.1
  have l3 : d.set.gl.length = hS.gl.n := hr.2.2.2.1.1
  have l5 : d.shape.length = gn := hr.2.2.2.2.2.1
  have m0 : rn ≤ 1048576 := by rw [← l0]; exact hm.rows.1
  have m1 : pn ≤ 1048576 := by rw [← l1]; exact hm.pens.1
  have m2 : qn ≤ 1048576 := by rw [← l2]; exact hm.paths.1
  have m3 : hS.gl.n ≤ 1048576 := by rw [← l3]; exact hm.set.l
  have m5 : gn ≤ 1048576 := by rw [← l5]; exact hm.shape.1
  obtain ⟨tB, hB⟩ : ∃ u, u = sceneB d := ⟨_, rfl⟩
  unfold sceneS at ht
  rw [← hB, l1, l2, l3, l5] at ht
  replace ht := Lib.hid ht
  replace l0 := Lib.hid l0
  clear l1 l2 l3 l5
  have hB0 := Go.Joins.below_alloc1 w (.cells #[.slice rA rn rc, .slice pA pn pc, .slice qA qn qc, .int .i64 d.set.unit, .slice hS.gl.A hS.gl.n hS.gl.c, .bool d.isOpen, .string d.now.name, .int .i64 d.now.code, .int .i64 d.now.adv, .slice hN.out.A hN.out.n hN.out.c, .slice hN.parts.A hN.parts.n hN.parts.c, .slice hN.anchors.A hN.anchors.n hN.anchors.c, .string d.now.hints, .slice gA gn gc] 63 (0, 0))
  have hx0 := boxC_new (d := d) (h := ⟨⟨rA, rn, rc⟩, ⟨pA, pn, pc⟩, ⟨qA, qn, qc⟩, hS, hN, ⟨gA, gn, gc⟩⟩) (heap_alloc_new w (.cells #[.slice rA rn rc, .slice pA pn pc, .slice qA qn qc, .int .i64 d.set.unit, .slice hS.gl.A hS.gl.n hS.gl.c, .bool d.isOpen, .string d.now.name, .int .i64 d.now.code, .int .i64 d.now.adv, .slice hN.out.A hN.out.n hN.out.c, .slice hN.parts.A hN.parts.n hN.parts.c, .slice hN.anchors.A hN.anchors.n hN.anchors.c, .string d.now.hints, .slice gA gn gc] 63 (0, 0))) rfl
  have hl0 : w.heap.size < (w.alloc (.cells #[.slice rA rn rc, .slice pA pn pc, .slice qA qn qc, .int .i64 d.set.unit, .slice hS.gl.A hS.gl.n hS.gl.c, .bool d.isOpen, .string d.now.name, .int .i64 d.now.code, .int .i64 d.now.adv, .slice hN.out.A hN.out.n hN.out.c, .slice hN.parts.A hN.parts.n hN.parts.c, .slice hN.anchors.A hN.anchors.n hN.anchors.c, .string d.now.hints, .slice gA gn gc] 63 (0, 0))).heap.size := by simp
  have hcv := Lib.hid (implValidScene_any d ⟨⟨rA, rn, rc⟩, ⟨pA, pn, pc⟩, ⟨qA, qn, qc⟩, hS, hN, ⟨gA, gn, gc⟩⟩ tB hB lo hi (w.alloc (.cells #[.slice rA rn rc, .slice pA pn pc, .slice qA qn qc, .int .i64 d.set.unit, .slice hS.gl.A hS.gl.n hS.gl.c, .bool d.isOpen, .string d.now.name, .int .i64 d.now.code, .int .i64 d.now.adv, .slice hN.out.A hN.out.n hN.out.c, .slice hN.parts.A hN.parts.n hN.parts.c, .slice hN.anchors.A hN.anchors.n hN.anchors.c, .string d.now.hints, .slice gA gn gc] 63 (0, 0))) (hr.frame (Below.sameB hB0 hhi)) (Nat.le_trans hhi hB0.size) hm hs hcp)
  replace hx0 := Lib.hid hx0
  replace hr0 := Lib.hid hr0
  replace hB := Lib.hid hB
  clear hr hm hs
  go_enter Tryz.func11, Tryz.ntmps11
  go_wp2_with fail
  refine hcv.out.mono ?_
  rintro e w1 ⟨rfl, hb1⟩
  have hB1 := hB0.trans (hb1.mono hB0.size)
  have hx1 := Lib.hid (hx0.out.below hb1 hl0)
  have hl1 : w.heap.size < w1.heap.size := Nat.lt_of_lt_of_le hl0 hb1.size
  clear hb1 hx0 hl0 hB0 hcv
  cases tB with
  | false =>
    have htf : t = ⟨#[]⟩ := by rw [ht.out]; rfl
    subst htf
    go_wp2_with fail
    go_ret
    exact ⟨rfl, hB1⟩
  | true =>
  have htt : t = scText (cntK d.rows) pn qn hS.gl.n gn := by rw [ht.out]; rfl
  replace htt := Lib.hid htt
  clear ht
  have z0 : w1.cell? ⟨w.heap.size, 0, none⟩ = some (.slice rA rn rc) := hx1.out.1
  go_wp2_with fail
  clear z0
  go_loopw [3, 13] (fun kn i wr => ∃ k : Nat, i = .int .i64 k ∧ kn = .int .i64 (cntK (d.rows.take k)) ∧ k ≤ rn ∧ BoxC wr w.heap.size d ⟨⟨rA, rn, rc⟩, ⟨pA, pn, pc⟩, ⟨qA, qn, qc⟩, hS, hN, ⟨gA, gn, gc⟩⟩ ∧ w.heap.size < wr.heap.size ∧ Below w.heap.size w wr) (fun kn i wr => rn - (intOf i).toNat)
  case atStart => exact ⟨0, rfl, rfl, Nat.zero_le _, hx1.out, hl1, hB1⟩
  case round =>
  obtain ⟨k, rfl, rfl, hk, hbox, hxl, hbel⟩ := hrel
  replace hbox := Lib.hid hbox
  have hsz := hbel.size
  have z0 : wr.cell? ⟨w.heap.size, 0, none⟩ = some (.slice rA rn rc) := hbox.out.1
  have hck := cntK_le d.rows k
  by_cases hlt : k < rn
  · obtain ⟨b1, f1, ⟨x0, x1, x2, K1⟩, ⟨A1, n1, c1⟩, hAe, hba, hbx, hja, hcs, hr1p⟩ := row_at (hr0.out.frame good_row (Below.sameB hbel hhi)) hlt
    subst hAe
    have q0 := hcs 0 _ rfl
    have q1 := hcs 1 _ rfl
    have q2 := hcs 2 _ rfl
    have q3 := hcs 3 _ rfl
    simp only [Nat.add_zero] at q0 q1 q2 q3
    have hbw : b1 < wr.heap.size := by omega
    have hki : (0 : Int) ≤ (k : Int) ∧ (k : Int) < (rn : Int) := by omega
    have hnx := cntK_next hja
    simp only at hnx
    rw [show K1.length = n1 from hr1p.1] at hnx
    obtain ⟨kn, hkn⟩ : ∃ u, u = cntK (d.rows.take k) := ⟨_, rfl⟩
    rw [← hkn] at hnx hck ⊢
    replace hkn := Lib.hid hkn
    have hkw : IntKind.i64.wrap ((kn : Int) + 1) = (kn : Int) + 1 := IntWalk.i64_in _ (by omega)
    clear hcs hja hr1p
    by_cases hz : n1 = 0
    · subst hz
      have hnx' : cntK (d.rows.take (k + 1)) = kn + 1 := by rw [hnx]; simp
      clear hnx
      replace hnx' := Lib.hid hnx'
      go_wp2_with fail
      go_roundw
      case rel => exact ⟨k + 1, by go_num, by rw [hnx'.out]; go_num, by omega, hbox.out.alloc hxl _, by simp; omega, hbel.alloc hsz _⟩
      case measure => simp [intOf]; omega
    · have hnx' : cntK (d.rows.take (k + 1)) = kn := by rw [hnx, if_neg hz]; rfl
      have hz2 : ((n1 : Int) == 0) = false := by simp [hz]
      have hz3 : ¬ (n1 : Int) = 0 := by omega
      clear hnx
      replace hnx' := Lib.hid hnx'
      go_wp2_with fail
      go_roundw
      case rel => exact ⟨k + 1, by go_num, by rw [hnx'.out], by omega, hbox.out.alloc hxl _, by simp; omega, hbel.alloc hsz _⟩
      case measure => simp [intOf]; omega
  · have hkk : k = rn := by omega
    have hcw : cntK (d.rows.take k) = cntK d.rows := by rw [List.take_of_length_le (by rw [l0.out]; omega)]
    rw [hcw] at hck ⊢
    obtain ⟨kn, hkn⟩ : ∃ u, u = cntK d.rows := ⟨_, rfl⟩
    rw [← hkn] at hck htt ⊢
    clear hcw
    replace hkn := Lib.hid hkn
    replace hkk := Lib.hid hkk
    go_wp2_with fail
    clear z0
    have g1 : wr.cell? ⟨w.heap.size, 1, none⟩ = some (.slice pA pn pc) := hbox.out.2.1
    have g2 : wr.cell? ⟨w.heap.size, 2, none⟩ = some (.slice qA qn qc) := hbox.out.2.2.1
    have g4 : wr.cell? ⟨w.heap.size, 4, none⟩ = some (.slice hS.gl.A hS.gl.n hS.gl.c) := hbox.out.2.2.2.2.1
    have g6 : wr.cell? ⟨w.heap.size, 13, none⟩ = some (.slice gA gn gc) := hbox.out.2.2.2.2.2.2.2.2.2.2.2.2.2
    have u1 := fun dr os => cell_regrown g1 dr os
    have u2 := fun dr os => cell_regrown g2 dr os
    have u4 := fun dr os => cell_regrown g4 dr os
    have u6 := fun dr os => cell_regrown g6 dr os
    have hkm : kn ≤ 1048576 := by omega
    have hs0 := cText_sz (word := wK) (n := kn) (by decide) hkm
    have hc0 := Lib.hid (fun dr os => Calls.regrown_of (countText_any wK kn (Go.Sort.grow (redrawn wr dr) os) (by decide) hkm))
    have hs1 := cText_sz (word := wP) (n := pn) (by decide) m1
    have hc1 := Lib.hid (fun dr os => Calls.regrown_of (countText_any wP pn (Go.Sort.grow (redrawn wr dr) os) (by decide) m1))
    have hs2 := cText_sz (word := wQ) (n := qn) (by decide) m2
    have hc2 := Lib.hid (fun dr os => Calls.regrown_of (countText_any wQ qn (Go.Sort.grow (redrawn wr dr) os) (by decide) m2))
    have hs3 := cText_sz (word := wG) (n := hS.gl.n) (by decide) m3
    have hc3 := Lib.hid (fun dr os => Calls.regrown_of (countText_any wG hS.gl.n (Go.Sort.grow (redrawn wr dr) os) (by decide) m3))
    have hs4 := cText_sz (word := wR) (n := gn) (by decide) m5
    have hc4 := Lib.hid (fun dr os => Calls.regrown_of (countText_any wR gn (Go.Sort.grow (redrawn wr dr) os) (by decide) m5))
    refine wp_region_quiet_below (by kernel_rfl) (by kernel_rfl) ?_
    repeat (go_big_quiet_step (first | (with_reducible exact hc0.out _ _) | (with_reducible exact hc1.out _ _) | (with_reducible exact hc2.out _ _) | (with_reducible exact hc3.out _ _) | (with_reducible exact hc4.out _ _)))
    refine wpQuiet_nil ?_
    intro _ hw'
    obtain ⟨⟨dq, osq⟩, hw''⟩ := hw'
    subst hw''
    have hb9 := hbel.trans ((below_regrown wr dq osq).mono hsz)
    generalize Go.Sort.grow (redrawn wr dq) osq = W9 at hb9 ⊢
    go_wp2_with fail
    go_ret
    exact ⟨ret_string (by rw [htt.out]; rfl), hb9⟩

end Go.Proofs.YtfkidklpjiiclaaGreat

/- The law FnExactSceneText: its walk. Conditions: as it states. -/
namespace Go.Proofs.YtfkidklpjiiclaaGreat
open Go.RowKit
set_option linter.unusedVariables false
set_option maxRecDepth 100000

theorem bC_new (w : World) (d : ScD) (h : ScH) (t : TypeId) : BoxC (w.alloc (.cells #[.slice h.rows.A h.rows.n h.rows.c, .slice h.pens.A h.pens.n h.pens.c, .slice h.paths.A h.paths.n h.paths.c, .int .i64 d.set.unit, .slice h.set.gl.A h.set.gl.n h.set.gl.c, .bool d.isOpen, .string d.now.name, .int .i64 d.now.code, .int .i64 d.now.adv, .slice h.now.out.A h.now.out.n h.now.out.c, .slice h.now.parts.A h.now.parts.n h.now.parts.c, .slice h.now.anchors.A h.now.anchors.n h.now.anchors.c, .string d.now.hints, .slice h.shape.A h.shape.n h.shape.c] t (0, 0))) w.heap.size d h := boxC_new (heap_alloc_new w _) rfl

set_option maxHeartbeats 8000000 in
theorem lawSceneText_walk (d : ScD) (h : ScH)  {w : World} (hr : ScRd w 0 w.heap.size d h) (hm : d.small maxLen) (hst : d.str)  :
    Calls Tryz.prog 4 #[scV d h] w fun e w' => e = .returned (.bool true) ∧ Below w.heap.size w w' := by
  obtain ⟨r0, hb⟩ : ∃ (r0 : ByteArray), r0 = sceneS d := ⟨_, rfl⟩
  replace hb := Lib.hid hb
  replace hr := Lib.hid hr
  replace hm := Lib.hid hm
  replace hst := Lib.hid hst
  have hs0 := Lib.hid (bC_new w d h 41)
  go_enter Tryz.func4, Tryz.ntmps4
  go_wp2_with fail
  refine (szScene_any d h 1048576 0 w.heap.size _ (hr.out.frame (Below.sameB (Go.Joins.below_alloc1 _ _) (Nat.le_refl _))) (Go.Joins.below_alloc1 _ _).size hm.out hst.out (by omega) (by omega)).mono ?_
  rintro e w1 ⟨rz, rfl, hrz, hb1⟩
  have hz1 := hb1.size
  simp at hz1
  have hB1 : Below w.heap.size w w1 := (Go.Joins.below_alloc1 _ _).trans (hb1.mono (by first | omega | (simp <;> omega)))
  have hs1 := Lib.hid (hs0.out.below hb1 (by first | omega | (simp <;> omega)))
  clear hs0 hb1
  rcases hrz with hn1 | ⟨hn1, hl1, hm1⟩
  · clear hs1
    go_wp2_with fail
    go_ret
    exact ⟨rfl, hB1⟩
  replace hm1 := Lib.hid hm1
  have hya : w.heap.size < w1.heap.size := by omega
  clear hl1
  obtain ⟨s0, s1, s2, s3, s4, s5, s6, s7, s8, s9, s10, s11, s12, s13⟩ := hs1.out
  go_wp2_with fail
  refine (toScene_rc d h 0 w.heap.size _ (hr.out.frame (Below.sameB hB1 (Nat.le_refl _))) hB1.size hm1.out).mono ?_
  rintro e w2 ⟨k2, rfl, rd2, hb2, cp2⟩
  have hB2 := hB1.trans (hb2.mono hB1.size)
  have hyb : w.heap.size < w2.heap.size := Nat.lt_of_lt_of_le hya hb2.size
  have hs2 := Lib.hid (hs1.out.below hb2 (by first | omega | (simp <;> omega)))
  clear s0 s1 s2 s3 s4 s5 s6 s7 s8 s9 s10 s11 s12 s13 hs1 hb2
  replace rd2 := Lib.hid rd2
  go_wp2_with fail
  refine (specSceneText_any d k2  r0 hb.out _ _ _ (ScRk.rd rd2.out) (Nat.le_refl _) (hm1.out.mono (by omega)) hst.out).mono ?_
  rintro e w5 ⟨rfl, hb5⟩
  have hB5 := hB2.trans (hb5.mono hB2.size)
  have hyc : w.heap.size < w5.heap.size := Nat.lt_of_lt_of_le hyb hb5.size
  have hs5 := Lib.hid (hs2.out.below hb5 (by first | omega | (simp <;> omega)))
  clear hs2 hb5 rd2
  obtain ⟨s0, s1, s2, s3, s4, s5, s6, s7, s8, s9, s10, s11, s12, s13⟩ := hs5.out
  go_wp2_with fail
  refine (toScene_rc d h 0 w.heap.size _ (hr.out.frame (Below.sameB hB5 (Nat.le_refl _))) hB5.size hm1.out).mono ?_
  rintro e w6 ⟨k6, rfl, rd6, hb6, cp6⟩
  have hB6 := hB5.trans (hb6.mono hB5.size)
  have hyd : w.heap.size < w6.heap.size := Nat.lt_of_lt_of_le hyc hb6.size
  have hs6 := Lib.hid (hs5.out.below hb6 (by first | omega | (simp <;> omega)))
  clear s0 s1 s2 s3 s4 s5 s6 s7 s8 s9 s10 s11 s12 s13 hs5 hb6
  replace rd6 := Lib.hid rd6
  go_wp2_with fail
  refine (implSceneText_any d k6  r0 hb.out _ _ _ (rd6.out.frame (SameB.alloc (SameB.refl _ _ _) (Nat.le_refl _) _)) (by simp) (hm1.out.mono (by omega)) hst.out cp6).mono ?_
  rintro e w8 ⟨rfl, hb8⟩
  have g68 : w6.heap.size < w8.heap.size := by have := hb8.size; simp at this; omega
  have hB8 : Below w.heap.size w w8 := (hB6.alloc hB6.size _).trans (hb8.mono (by simp; exact Nat.le_succ_of_le hB6.size))
  have hs8 := Lib.hid ((hs6.out.alloc (by omega) _).below hb8 (by first | omega | (simp <;> omega)))
  have hx8 := Lib.hid (boxC_new (d := d) (h := k6) ((hb8.block _ (by simp)).trans (heap_alloc_new w6 _)) rfl)
  replace rd6 := Lib.hid (rd6.out.frame ((SameB.alloc (SameB.refl _ _ _) (Nat.le_refl _) _).trans (Below.sameB hb8 (by simp))))
  have hye : w.heap.size < w8.heap.size := by omega
  clear hs6 hb8
  go_wp2_with fail
  go_region_held3 (fun w' => w'.cell? ⟨w6.heap.size, 0, none⟩ = some (.slice k6.rows.A k6.rows.n k6.rows.c) ∧ w'.cell? ⟨w6.heap.size, 1, none⟩ = some (.slice k6.pens.A k6.pens.n k6.pens.c) ∧ w'.cell? ⟨w6.heap.size, 2, none⟩ = some (.slice k6.paths.A k6.paths.n k6.paths.c) ∧ w'.cell? ⟨w6.heap.size, 3, none⟩ = some (.int .i64 d.set.unit) ∧ w'.cell? ⟨w6.heap.size, 4, none⟩ = some (.slice k6.set.gl.A k6.set.gl.n k6.set.gl.c) ∧ w'.cell? ⟨w6.heap.size, 5, none⟩ = some (.bool d.isOpen) ∧ w'.cell? ⟨w6.heap.size, 6, none⟩ = some (.string d.now.name) ∧ w'.cell? ⟨w6.heap.size, 7, none⟩ = some (.int .i64 d.now.code) ∧ w'.cell? ⟨w6.heap.size, 8, none⟩ = some (.int .i64 d.now.adv) ∧ w'.cell? ⟨w6.heap.size, 9, none⟩ = some (.slice k6.now.out.A k6.now.out.n k6.now.out.c) ∧ w'.cell? ⟨w6.heap.size, 10, none⟩ = some (.slice k6.now.parts.A k6.now.parts.n k6.now.parts.c) ∧ w'.cell? ⟨w6.heap.size, 11, none⟩ = some (.slice k6.now.anchors.A k6.now.anchors.n k6.now.anchors.c) ∧ w'.cell? ⟨w6.heap.size, 12, none⟩ = some (.string d.now.hints) ∧ w'.cell? ⟨w6.heap.size, 13, none⟩ = some (.slice k6.shape.A k6.shape.n k6.shape.c) ∧ w'.cell? ⟨w.heap.size, 0, none⟩ = some (.slice h.rows.A h.rows.n h.rows.c) ∧ w'.cell? ⟨w.heap.size, 1, none⟩ = some (.slice h.pens.A h.pens.n h.pens.c) ∧ w'.cell? ⟨w.heap.size, 2, none⟩ = some (.slice h.paths.A h.paths.n h.paths.c) ∧ w'.cell? ⟨w.heap.size, 3, none⟩ = some (.int .i64 d.set.unit) ∧ w'.cell? ⟨w.heap.size, 4, none⟩ = some (.slice h.set.gl.A h.set.gl.n h.set.gl.c) ∧ w'.cell? ⟨w.heap.size, 5, none⟩ = some (.bool d.isOpen) ∧ w'.cell? ⟨w.heap.size, 6, none⟩ = some (.string d.now.name) ∧ w'.cell? ⟨w.heap.size, 7, none⟩ = some (.int .i64 d.now.code) ∧ w'.cell? ⟨w.heap.size, 8, none⟩ = some (.int .i64 d.now.adv) ∧ w'.cell? ⟨w.heap.size, 9, none⟩ = some (.slice h.now.out.A h.now.out.n h.now.out.c) ∧ w'.cell? ⟨w.heap.size, 10, none⟩ = some (.slice h.now.parts.A h.now.parts.n h.now.parts.c) ∧ w'.cell? ⟨w.heap.size, 11, none⟩ = some (.slice h.now.anchors.A h.now.anchors.n h.now.anchors.c) ∧ w'.cell? ⟨w.heap.size, 12, none⟩ = some (.string d.now.hints) ∧ w'.cell? ⟨w.heap.size, 13, none⟩ = some (.slice h.shape.A h.shape.n h.shape.c)) (first | exact (hx8.out.two hs8.out) | exact (hx9.out.two hs9.out) | exact (hx10.out.two hs10.out))
    (first | (go_at_call 7; (with_reducible refine (toScene_rc d h 0 w.heap.size _ ?_ ?_ hm1.out).mono ?_); exact (hr.out.frame (Below.sameB hB8.drew (Nat.le_refl _))); exact hB8.size; rintro e w9 ⟨k9, rfl, rd9, hb9, cp9⟩; have hB9 := hB8.drew.trans (hb9.mono hB8.size); have hz9 : w8.heap.size ≤ w9.heap.size := hb9.size; have hs9 := Lib.hid (hs8.out.drew.below hb9 (by first | omega | (simp <;> omega))); have hx9 := Lib.hid (hx8.out.drew.below hb9 (by first | omega | (simp <;> omega))); replace rd6 := Lib.hid (rd6.out.frame ((SameB.refl _ _ w8).drew.trans (Below.sameB hb9 (by show _ ≤ w8.heap.size; omega)))); replace rd9 := Lib.hid rd9; clear hb9) | (go_at_call 9; (with_reducible refine (eqScene_any d k6 k9 _ _ _ _ _ (ScRk.rd rd6.out) (ScRk.rd rd9.out) ?_ ?_ ?_).mono ?_); (omega); (exact Nat.le_refl _); exact hm1.out.mono (by omega); rintro e w10 ⟨rfl, hb10⟩; have hB10 := hB9.trans (hb10.mono hB9.size); have hz10 : w9.heap.size ≤ w10.heap.size := hb10.size; have hs10 := Lib.hid (hs9.out.below hb10 (by first | omega | (simp <;> omega))); have hx10 := Lib.hid (hx9.out.below hb10 (by first | omega | (simp <;> omega))); clear hb10))
  go_wp2_with fail
  go_ret
  exact ⟨rfl, hB10⟩
end Go.Proofs.YtfkidklpjiiclaaGreat

