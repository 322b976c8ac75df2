/- A scene's validity, the program's side. Printed by mk_vs9.py. Conditions: as each states. -/
import Derived.BigQuiet
import Derived.Outline
import Derived.Test.YtfkidklpjiiclaaGreatTe36
import Derived.Test.YtfkidklpjiiclaaGreatTe37
import Derived.Test.YtfkidklpjiiclaaGreatTe38
import Derived.Test.YtfkidklpjiiclaaGreatTe27
import Derived.Test.YtfkidklpjiiclaaGreatTe35
import Derived.Test.YtfkidklpjiiclaaGreatTe15
import Derived.Test.YtfkidklpjiiclaaGreatTe44
import Derived.Test.YtfkidklpjiiclaaGreatTe10
import Derived.Test.YtfkidklpjiiclaaGreatTe01
import Derived.Test.YtfkidklpjiiclaaGreatProg
namespace Go.Proofs.YtfkidklpjiiclaaGreat
open Go.RowKit
set_option linter.unusedVariables false
set_option maxRecDepth 100000

theorem scene_no {d : ScD} (h : sysB d.rows = false ∨ listsB d.pens d.paths = false ∨ setOk d.set = false ∨ regOk d.shape = false) : sceneB d = false := by
  unfold sceneB
  rcases h with h | h | h | h <;> rw [h] <;> simp
theorem lists_no3 {P : List NamedPenD} {Q : List NamedPathD} (h : 12 < P.length) : listsB P Q = false := by unfold listsB; rw [decide_eq_false (by omega : ¬ P.length ≤ 12)]; simp
theorem lists_no4 {P : List NamedPenD} {Q : List NamedPathD} (h : 24 < Q.length) : listsB P Q = false := by unfold listsB; rw [decide_eq_false (by omega : ¬ Q.length ≤ 24)]; simp
theorem okPen_take {L : List NamedPenD} {k : Nat} {d : NamedPenD} (h : L[k]? = some d) : okPen L k = (nameB d.name && (penB d.L && decide (penIdx (L.take k) d.name < 0))) := by
  rw [okPen_at h, decide_eq_decide.2 (nm_first (f := NamedPenD.name) h), Bool.and_comm (penB _)]
theorem okPath_take {L : List NamedPathD} {k : Nat} {d : NamedPathD} (h : L[k]? = some d) : okPath L k = (nameB d.name && (pathOk d.L && decide (npathIdx (L.take k) d.name < 0))) := by
  rw [okPath_at h, decide_eq_decide.2 (nm_first (f := NamedPathD.name) h), Bool.and_comm (pathOk _)]; rfl

set_option maxHeartbeats 16000000 in
theorem implValidScene_any (d : ScD) (h : ScH) (t : Bool) (ht : t = sceneB d) (lo hi : Nat) (w : World) (hr : ScRk w lo hi d h) (hhi : hi ≤ w.heap.size) (hm : d.small 1048576) (hs : d.str) (hcp : ScCap h) :
    Calls Tryz.prog 8 #[scV d h] w fun e w' => e = .returned (.bool t) ∧ Below w.heap.size w w' := by
  obtain ⟨⟨rA, rn, rc⟩, ⟨pA, pn, pc⟩, ⟨qA, qn, qc⟩, hS, hN, ⟨gA, gn, gc⟩⟩ := h
  obtain ⟨hr0, hr1, hr2, hr3, hr4, hr5⟩ := hr
  obtain ⟨cp1, cp2, cp3⟩ := hcp
  simp only at hr0 hr1 hr2 hr3 hr4 hr5 cp1 cp2 cp3
  obtain ⟨tS, hSy⟩ : ∃ u, u = sysB d.rows := ⟨_, rfl⟩
  obtain ⟨tG, hG⟩ : ∃ u, u = setOk d.set := ⟨_, rfl⟩
  obtain ⟨tR, hR⟩ : ∃ u, u = regOk d.shape := ⟨_, rfl⟩
  have m0 : rn ≤ 1048576 := by rw [← hr0.1]; exact hm.rows.1
  have m1 : pn ≤ 1048576 := by rw [← hr1.1]; exact hm.pens.1
  have m2 : qn ≤ 1048576 := by rw [← hr2.1]; exact hm.paths.1
  have m5 : gn ≤ 1048576 := by rw [← hr5.1]; exact hm.shape.1
  have hcapf : ∀ k, k ≤ 1048576 → k ≤ 1000000000 := fun k hk => Nat.le_trans hk (by omega)
  have l1 := Lib.hid hr1.1
  have l2 := Lib.hid hr2.1
  have l4 := Lib.hid hr4.1.1
  have l5 := Lib.hid hr5.1
  replace hSy := Lib.hid hSy
  replace hG := Lib.hid hG
  replace hR := Lib.hid hR
  replace ht := Lib.hid ht
  replace hr0 := Lib.hid hr0
  replace hr1 := Lib.hid hr1
  replace hr2 := Lib.hid hr2
  replace hr3 := Lib.hid hr3
  replace hr4 := Lib.hid hr4
  replace hr5 := Lib.hid hr5
  replace hm := Lib.hid hm
  replace hs := Lib.hid hs
  replace hcapf := Lib.hid hcapf
  replace cp3 := Lib.hid cp3
  have hB0 := Go.Joins.below_alloc1 w (.cells #[.slice rA rn rc, .slice pA pn pc, .slice qA qn qc, .int .i64 d.set.unit, .slice hS.gl.A hS.gl.n hS.gl.c, .bool d.isOpen, .string d.now.name, .int .i64 d.now.code, .int .i64 d.now.adv, .slice hN.out.A hN.out.n hN.out.c, .slice hN.parts.A hN.parts.n hN.parts.c, .slice hN.anchors.A hN.anchors.n hN.anchors.c, .string d.now.hints, .slice gA gn gc] 63 (0, 0))
  have hx0 := Lib.hid (boxC_new (d := d) (h := ⟨⟨rA, rn, rc⟩, ⟨pA, pn, pc⟩, ⟨qA, qn, qc⟩, hS, hN, ⟨gA, gn, gc⟩⟩) (heap_alloc_new w (.cells #[.slice rA rn rc, .slice pA pn pc, .slice qA qn qc, .int .i64 d.set.unit, .slice hS.gl.A hS.gl.n hS.gl.c, .bool d.isOpen, .string d.now.name, .int .i64 d.now.code, .int .i64 d.now.adv, .slice hN.out.A hN.out.n hN.out.c, .slice hN.parts.A hN.parts.n hN.parts.c, .slice hN.anchors.A hN.anchors.n hN.anchors.c, .string d.now.hints, .slice gA gn gc] 63 (0, 0))) rfl)
  have hl0 : w.heap.size < (w.alloc (.cells #[.slice rA rn rc, .slice pA pn pc, .slice qA qn qc, .int .i64 d.set.unit, .slice hS.gl.A hS.gl.n hS.gl.c, .bool d.isOpen, .string d.now.name, .int .i64 d.now.code, .int .i64 d.now.adv, .slice hN.out.A hN.out.n hN.out.c, .slice hN.parts.A hN.parts.n hN.parts.c, .slice hN.anchors.A hN.anchors.n hN.anchors.c, .string d.now.hints, .slice gA gn gc] 63 (0, 0))).heap.size := by simp
  go_enter Tryz.func8, Tryz.ntmps8
  go_wp2_with fail
  refine (implSysOk_any _ _ _ lo hi d.rows tS hSy.out _ (hr0.out.frame good_row (Below.sameB hB0 hhi)) (Nat.le_trans hhi hB0.size) (hcapf.out _ m0) (fun g hg => hcapf.out _ (hm.out.rows.2 g hg)) hs.out.rows).mono ?_
  rintro e w1 ⟨rfl, hb1⟩
  have hB1 := hB0.trans (hb1.mono hB0.size)
  have hx1 := Lib.hid (hx0.out.below hb1 hl0)
  have hl1 : w.heap.size < w1.heap.size := Nat.lt_of_lt_of_le hl0 hb1.size
  clear hb1 hx0 hl0
  have s1 : w1.cell? ⟨w.heap.size, 1, none⟩ = some (.slice pA pn pc) := hx1.out.2.1
  have s2 : w1.cell? ⟨w.heap.size, 2, none⟩ = some (.slice qA qn qc) := hx1.out.2.2.1
  have s3 : w1.cell? ⟨w.heap.size, 3, none⟩ = some (.int .i64 d.set.unit) := hx1.out.2.2.2.1
  have s4 : w1.cell? ⟨w.heap.size, 4, none⟩ = some (.slice hS.gl.A hS.gl.n hS.gl.c) := hx1.out.2.2.2.2.1
  cases tS with
  | false =>
    have htf : t = false := by rw [ht.out]; exact scene_no (.inl hSy.out.symm)
    subst htf
    go_wp2_with fail
    go_ret
    exact ⟨rfl, hB1⟩
  | true =>
  by_cases h12 : pn ≤ 12
  rotate_left
  · have htf : t = false := by rw [ht.out]; exact scene_no (.inr (.inl (lists_no3 (by rw [l1.out]; omega))))
    subst htf
    have g1 : decide ((12 : Int) < pn) = true := decide_eq_true (by omega)
    have g2 : (12 : Int) < pn := by omega
    
    
    go_wp2_with fail
    go_ret
    exact ⟨rfl, hB1⟩
  by_cases h24 : qn ≤ 24
  rotate_left
  · have htf : t = false := by rw [ht.out]; exact scene_no (.inr (.inl (lists_no4 (by rw [l2.out]; omega))))
    subst htf
    have g1 : decide ((24 : Int) < qn) = true := decide_eq_true (by omega)
    have g2 : (24 : Int) < qn := by omega
    have g3 : decide ((12 : Int) < pn) = false := decide_eq_false (by omega)
    have g4 : ¬ (12 : Int) < pn := by omega
    go_wp2_with fail
    go_ret
    exact ⟨rfl, hB1⟩
  have g1 : decide ((12 : Int) < pn) = false := decide_eq_false (by omega)
  have g2 : ¬ (12 : Int) < pn := by omega
  have g3 : decide ((24 : Int) < qn) = false := decide_eq_false (by omega)
  have g4 : ¬ (24 : Int) < qn := by omega
  go_wp2_with fail
  refine (implValidGS_any d.set hS tG hG.out lo hi w1 (hr3.out.frame good_glyphc (Below.sameB hB1 hhi)) (Nat.le_trans hhi hB1.size) (hm.out.set.mono (by omega)) hs.out.set).mono ?_
  clear s1 s2 s3 s4
  rintro e w2 ⟨rfl, hb2⟩
  have hB2 := hB1.trans (hb2.mono hB1.size)
  have hx2 := Lib.hid (hx1.out.below hb2 hl1)
  have hl2 : w.heap.size < w2.heap.size := Nat.lt_of_lt_of_le hl1 hb2.size
  clear hb2 hx1 hl1
  have s13 : w2.cell? ⟨w.heap.size, 13, none⟩ = some (.slice gA gn gc) := hx2.out.2.2.2.2.2.2.2.2.2.2.2.2.2
  cases tG with
  | false =>
    have htf : t = false := by rw [ht.out]; exact scene_no (.inr (.inr (.inl hG.out.symm)))
    subst htf
    go_wp2_with fail
    go_ret
    exact ⟨rfl, hB2⟩
  | true =>
  go_wp2_with fail
  refine (validRegion_any _ _ _ lo hi d.shape tR hR.out w2 (hr5.out.frame good_ring (Below.sameB hB2 hhi)) (Nat.le_trans hhi hB2.size) m5 hm.out.shape.2).mono ?_
  clear s13
  rintro e w3 ⟨rfl, hb3⟩
  have hB3 := hB2.trans (hb3.mono hB2.size)
  have hx3 := Lib.hid (hx2.out.below hb3 hl2)
  have hl3 : w.heap.size < w3.heap.size := Nat.lt_of_lt_of_le hl2 hb3.size
  clear hb3 hx2 hl2
  have s1 : w3.cell? ⟨w.heap.size, 1, none⟩ = some (.slice pA pn pc) := hx3.out.2.1
  cases tR with
  | false =>
    have htf : t = false := by rw [ht.out]; exact scene_no (.inr (.inr (.inr hR.out.symm)))
    subst htf
    go_wp2_with fail
    go_ret
    exact ⟨rfl, hB3⟩
  | true =>
  go_wp2_with fail
  clear s1
  go_loopw [38] (fun i wr => ∃ k : Nat, i = .int .i64 k ∧ k ≤ pn ∧ (∀ j, j < k → okPen d.pens j = true) ∧ BoxC wr w.heap.size d ⟨⟨rA, rn, rc⟩, ⟨pA, pn, pc⟩, ⟨qA, qn, qc⟩, hS, hN, ⟨gA, gn, gc⟩⟩ ∧ w.heap.size < wr.heap.size ∧ Below w.heap.size w wr) (fun i wr => pn - (intOf i).toNat)
  case atStart => exact ⟨0, rfl, Nat.zero_le _, fun j hj => absurd hj (Nat.not_lt_zero j), hx3.out, hl3, hB3⟩
  case round =>
  obtain ⟨k, rfl, hk, hall, hbox, hxl, hbel⟩ := hrel
  replace hall := Lib.hid hall
  replace hbox := Lib.hid hbox
  have hsz := hbel.size
  by_cases hlt : k < pn
  rotate_left
  · have hallP := Lib.hid (fun j (hj : j < d.pens.length) => hall.out j (by have := l1.out; omega))
    have s2 : wr.cell? ⟨w.heap.size, 2, none⟩ = some (.slice qA qn qc) := hbox.out.2.2.1
    go_wp2_with fail
    clear s2 hall
    generalize wr = xr at *
    go_loopw [67] (fun i wr => ∃ k : Nat, i = .int .i64 k ∧ k ≤ qn ∧ (∀ j, j < k → okPath d.paths j = true) ∧ BoxC wr w.heap.size d ⟨⟨rA, rn, rc⟩, ⟨pA, pn, pc⟩, ⟨qA, qn, qc⟩, hS, hN, ⟨gA, gn, gc⟩⟩ ∧ w.heap.size < wr.heap.size ∧ Below w.heap.size w wr) (fun i wr => qn - (intOf i).toNat)
    case atStart => exact ⟨0, rfl, Nat.zero_le _, fun j hj => absurd hj (Nat.not_lt_zero j), hbox.out, hxl, hbel⟩
    case round =>
    obtain ⟨k, rfl, hk, hall, hbox, hxl, hbel⟩ := hrel
    replace hall := Lib.hid hall
    replace hbox := Lib.hid hbox
    have hsz := hbel.size
    by_cases hlt : k < qn
    rotate_left
    · have hkk : k = qn := by omega
      have htt : t = sceneT d := by
        rw [ht.out, sceneB, ← hSy.out, ← hG.out, ← hR.out, lists_all hallP.out (fun j hj => hall.out j (by have := l2.out; omega)), decide_eq_true (by rw [l1.out]; exact h12), decide_eq_true (by rw [l2.out]; exact h24)]; rfl
      replace htt := Lib.hid htt
      have c5 : wr.cell? ⟨w.heap.size, 5, none⟩ = some (.bool d.isOpen) := hbox.out.2.2.2.2.2.1
      have c6 : wr.cell? ⟨w.heap.size, 6, none⟩ = some (.string d.now.name) := hbox.out.2.2.2.2.2.2.1
      have c7 : wr.cell? ⟨w.heap.size, 7, none⟩ = some (.int .i64 d.now.code) := hbox.out.2.2.2.2.2.2.2.1
      have c8 : wr.cell? ⟨w.heap.size, 8, none⟩ = some (.int .i64 d.now.adv) := hbox.out.2.2.2.2.2.2.2.2.1
      have c9 : wr.cell? ⟨w.heap.size, 9, none⟩ = some (.slice hN.out.A hN.out.n hN.out.c) := hbox.out.2.2.2.2.2.2.2.2.2.1
      have c10 : wr.cell? ⟨w.heap.size, 10, none⟩ = some (.slice hN.parts.A hN.parts.n hN.parts.c) := hbox.out.2.2.2.2.2.2.2.2.2.2.1
      have c11 : wr.cell? ⟨w.heap.size, 11, none⟩ = some (.slice hN.anchors.A hN.anchors.n hN.anchors.c) := hbox.out.2.2.2.2.2.2.2.2.2.2.2.1
      have c12 : wr.cell? ⟨w.heap.size, 12, none⟩ = some (.string d.now.hints) := hbox.out.2.2.2.2.2.2.2.2.2.2.2.2.1
      have c13 : wr.cell? ⟨w.heap.size, 13, none⟩ = some (.slice gA gn gc) := hbox.out.2.2.2.2.2.2.2.2.2.2.2.2.2
      clear hall
      by_cases ho : d.isOpen = true
      · have hts : t = (glyphOk d.now && decide (d.now.out.length = 0)) := by rw [htt.out, sceneT, if_pos ho]
        obtain ⟨tN, hNN⟩ : ∃ u, u = glyphOk d.now := ⟨_, rfl⟩
        rw [← hNN, l4.out] at hts
        replace hts := Lib.hid hts
        rw [ho] at c5
        have hcall := Lib.hid (implValidG_any d.now hN tN hNN lo hi wr (hr4.out.frame (Below.sameB hbel hhi)) (Nat.le_trans hhi hbel.size) (hm.out.now.mono (by omega)) ⟨hs.out.now.1, hs.out.now.2.1, hs.out.now.2.2⟩ cp3.out)
        replace hNN := Lib.hid hNN
        clear ho
        go_wp2_with fail
        refine hcall.out.mono ?_
        rintro e w5 ⟨rfl, hb5⟩
        have hB5 := hbel.trans (hb5.mono hbel.size)
        have d9 := (hb5.cell (p := ⟨w.heap.size, 9, none⟩) hxl).trans c9
        have hpx : w.heap.size < w5.heap.size := Nat.lt_of_lt_of_le hxl hb5.size
        clear hb5
        cases tN with
        | false =>
          have htf : t = false := by rw [hts.out]; rfl
          subst htf
          go_wp2_with fail
          go_ret
          exact ⟨rfl, hB5⟩
        | true =>
          have htq : t = decide (hN.out.n = 0) := by rw [hts.out]; rfl
          replace htq := Lib.hid htq
          go_wp2_with fail
          go_ret
          exact ⟨by rw [htq.out]; simp; rw [Bool.eq_iff_iff]; simp, hB5⟩
      · have ho' : d.isOpen = false := by simpa using ho
        have hts : t = (decide (d.now = zGl) && decide (d.shape.length = 0)) := by rw [htt.out, sceneT, if_neg ho]
        obtain ⟨tN, hNN⟩ : ∃ u, u = decide (d.now = zGl) := ⟨_, rfl⟩
        rw [← hNN, l5.out] at hts
        replace hts := Lib.hid hts
        rw [ho'] at c5
        have hcall := Lib.hid (implSameG_any d.now zGl hN zGlH tN hNN lo hi 0 0 wr (hr4.out.frame (Below.sameB hbel hhi)) (zGl_rd _ _ _) (Nat.le_trans hhi hbel.size) (Nat.zero_le _) (hm.out.now.mono (by omega)) (by constructor <;> simp))
        replace hNN := Lib.hid hNN
        clear ho ho'
        go_wp2_with fail
        refine hcall.out.mono ?_
        rintro e w5 ⟨rfl, hb5⟩
        have hB5 := hbel.trans (hb5.mono hbel.size)
        have d13 := (hb5.cell (p := ⟨w.heap.size, 13, none⟩) hxl).trans c13
        have hpx : w.heap.size < w5.heap.size := Nat.lt_of_lt_of_le hxl hb5.size
        clear hb5
        cases tN with
        | false =>
          have htf : t = false := by rw [hts.out]; rfl
          subst htf
          go_wp2_with fail
          go_ret
          exact ⟨rfl, hB5⟩
        | true =>
          have htq : t = decide (gn = 0) := by rw [hts.out]; rfl
          replace htq := Lib.hid htq
          go_wp2_with fail
          go_ret
          exact ⟨by rw [htq.out]; simp; rw [Bool.eq_iff_iff]; simp, hB5⟩
    have hkl : k < d.paths.length := by rw [l2.out]; exact hlt
    obtain ⟨b1, f1, ⟨x0, K1, x2⟩, ⟨A1, n1, c1⟩, hAe, hba, hbx, hja, hcs, hr1p⟩ := npath_at (hr2.out.frame good_npath (Below.sameB hbel hhi)) hlt
    subst hAe
    have q0 := hcs 0 _ rfl
    have q1 := hcs 1 _ rfl
    have q2 := hcs 2 _ rfl
    simp only [Nat.add_zero] at q0 q1 q2
    have hbw : b1 < wr.heap.size := by omega
    have hki : (0 : Int) ≤ (k : Int) ∧ (k : Int) < (qn : Int) := by omega
    have hkc : (k : Int) ≤ (qc : Int) := by omega
    have hst := hs.out.paths _ (List.mem_of_getElem? hja)
    have hsx : x0.size ≤ 9223372036854775807 := by have := hst.1; unfold maxLen at this; exact this
    have hn1 : n1 ≤ 1048576 := Nat.le_trans (Nat.le_of_eq hr1p.1.symm) (hm.out.paths.2 _ (List.mem_of_getElem? hja))
    have hal := okPath_take hja
    simp only at hal
    obtain ⟨tN, hNm⟩ : ∃ u, u = nameB x0 := ⟨_, rfl⟩
    obtain ⟨tB, hPB⟩ : ∃ u, u = pathOk K1 := ⟨_, rfl⟩
    obtain ⟨ix, hix⟩ : ∃ u, u = npathIdx (d.paths.take k) x0 := ⟨_, rfl⟩
    rw [← hNm, ← hPB, ← hix] at hal
    have hBa := Go.Joins.below_alloc1 wr (.cells #[.string x0, .slice A1 n1 c1, .bool x2] 92 (0, 0))
    have hYa := heap_alloc_new wr (.cells #[.string x0, .slice A1 n1 c1, .bool x2] 92 (0, 0))
    have hXa := hbox.out.alloc hxl (.cells #[.string x0, .slice A1 n1 c1, .bool x2] 92 (0, 0))
    have g0 : (wr.alloc (.cells #[.string x0, .slice A1 n1 c1, .bool x2] 92 (0, 0))).cell? ⟨wr.heap.size, 0, none⟩ = some (.string x0) := by rw [Go.Joins.cell_of_block hYa]; rfl
    have g1 : (wr.alloc (.cells #[.string x0, .slice A1 n1 c1, .bool x2] 92 (0, 0))).cell? ⟨wr.heap.size, 1, none⟩ = some (.slice A1 n1 c1) := by rw [Go.Joins.cell_of_block hYa]; rfl
    have g2 : (wr.alloc (.cells #[.string x0, .slice A1 n1 c1, .bool x2] 92 (0, 0))).cell? ⟨w.heap.size, 2, none⟩ = some (.slice (some ⟨b1, f1, none⟩) qn qc) := hXa.2.2.1
    have hYl : wr.heap.size < (wr.alloc (.cells #[.string x0, .slice A1 n1 c1, .bool x2] 92 (0, 0))).heap.size := by simp
    obtain ⟨W, hW⟩ : ∃ W, W = wr.alloc (.cells #[.string x0, .slice A1 n1 c1, .bool x2] 92 (0, 0)) := ⟨_, rfl⟩
    rw [← hW] at hBa hXa g0 g1 g2 hYl
    have hBW := hbel.trans (hBa.mono hsz)
    have hxlW : w.heap.size < W.heap.size := Nat.lt_of_lt_of_le hxl hBa.size
    have m0 : ∀ dr os, (Go.Sort.grow (redrawn W dr) os).cell? ⟨wr.heap.size, 0, none⟩ = some (.string x0) := cell_regrown g0
    have m1 : ∀ dr os, (Go.Sort.grow (redrawn W dr) os).cell? ⟨wr.heap.size, 1, none⟩ = some (.slice A1 n1 c1) := cell_regrown g1
    have m2 : ∀ dr os, (Go.Sort.grow (redrawn W dr) os).cell? ⟨w.heap.size, 2, none⟩ = some (.slice (some ⟨b1, f1, none⟩) qn qc) := cell_regrown g2
    have hcn := Lib.hid (fun dr os => calls_kept (fun w => implIsName_k x0 tN hNm w hsx) W dr os)
    have hcb := Lib.hid (fun dr os => Calls.regrown_of (isPath_any A1 n1 c1 lo hi K1 tB hPB (Go.Sort.grow (redrawn W dr) os) ((hr1p.frame (good_flat _) (Below.sameB hBa (Nat.le_trans hhi hsz))).frame (good_flat _) (Below.sameB (below_regrown W dr os) (Nat.le_trans hhi hBW.size))) (Nat.le_trans hhi (Nat.le_trans hBW.size (below_regrown W dr os).size)) hn1))
    have hcx := Lib.hid (fun dr os => Calls.regrown_of (findPath_any x0 (some ⟨b1, f1, none⟩) k qc lo hi (d.paths.take k) (Go.Sort.grow (redrawn W dr) os) (((hr2.out.frame good_npath (Below.sameB hBW hhi)).take hk).frame good_npath (Below.sameB (below_regrown W dr os) (Nat.le_trans hhi hBW.size))) (Nat.le_trans hhi (Nat.le_trans hBW.size (below_regrown W dr os).size)) (by omega)))
    rw [← hix] at hcx
    replace hal := Lib.hid hal
    replace hNm := Lib.hid hNm
    replace hix := Lib.hid hix
    replace hPB := Lib.hid hPB
    replace hXa := Lib.hid hXa
    clear hcs hst hsx hja hr1p hYa g0 g1 g2
    go_wp2_with fail
    rw [← hW]
    replace hW := Lib.hid hW
    clear q0 q1 q2
    have hkc2 : (0 : Int) ≤ (k : Int) ∧ (k : Int) ≤ (qc : Int) := by omega
    have hkc3 : k ≤ qc := by omega
    cases tN with
    | false =>
      have hok : okPath d.paths k = false := by rw [hal.out]; rfl
      have htf : t = false := by rw [ht.out]; exact scene_no (.inr (.inl (lists_no2 hkl hok)))
      subst htf
      clear hok
      refine wp_region_quiet_below (by kernel_rfl) (by kernel_rfl) ?_
      repeat (go_big_quiet_step (first | (with_reducible exact hcn.out _ _) | (with_reducible exact hcb.out _ _) | (with_reducible exact hcx.out _ _)))
      refine wpQuiet_nil ?_
      intro _ hw'
      obtain ⟨⟨dq, osq⟩, hw''⟩ := hw'
      subst hw''
      have hb9 := below_regrown W dq osq
      generalize Go.Sort.grow (redrawn W dq) osq = W9 at hb9 ⊢
      have hB5 := hBW.trans (hb9.mono hBW.size)
      clear m0 m1 m2 hb9
      go_wp2_with fail
      go_ret
      exact ⟨rfl, hB5⟩
    | true =>
    cases tB with
    | false =>
      have hok : okPath d.paths k = false := by rw [hal.out]; rfl
      have htf : t = false := by rw [ht.out]; exact scene_no (.inr (.inl (lists_no2 hkl hok)))
      subst htf
      clear hok
      refine wp_region_quiet_below (by kernel_rfl) (by kernel_rfl) ?_
      repeat (go_big_quiet_step (first | (with_reducible exact hcn.out _ _) | (with_reducible exact hcb.out _ _) | (with_reducible exact hcx.out _ _)))
      refine wpQuiet_nil ?_
      intro _ hw'
      obtain ⟨⟨dq, osq⟩, hw''⟩ := hw'
      subst hw''
      have hb9 := below_regrown W dq osq
      generalize Go.Sort.grow (redrawn W dq) osq = W9 at hb9 ⊢
      have hB5 := hBW.trans (hb9.mono hBW.size)
      clear m0 m1 m2 hb9
      go_wp2_with fail
      go_ret
      exact ⟨rfl, hB5⟩
    | true =>
    by_cases hi0 : 0 ≤ ix
    · have hok : okPath d.paths k = false := by rw [hal.out, decide_eq_false (by omega : ¬ ix < 0)]; rfl
      have htf : t = false := by rw [ht.out]; exact scene_no (.inr (.inl (lists_no2 hkl hok)))
      subst htf
      clear hok
      refine wp_region_quiet_below (by kernel_rfl) (by kernel_rfl) ?_
      repeat (go_big_quiet_step (first | (with_reducible exact hcn.out _ _) | (with_reducible exact hcb.out _ _) | (with_reducible exact hcx.out _ _)))
      refine wpQuiet_nil ?_
      intro _ hw'
      obtain ⟨⟨dq, osq⟩, hw''⟩ := hw'
      subst hw''
      have hb9 := below_regrown W dq osq
      generalize Go.Sort.grow (redrawn W dq) osq = W9 at hb9 ⊢
      have hB5 := hBW.trans (hb9.mono hBW.size)
      clear m0 m1 m2 hb9
      go_wp2_with fail
      go_ret
      exact ⟨rfl, hB5⟩
    have hok : okPath d.paths k = true := by rw [hal.out, decide_eq_true (by omega : ix < 0)]; rfl
    replace hok := Lib.hid hok
    refine wp_region_quiet_below (by kernel_rfl) (by kernel_rfl) ?_
    repeat (go_big_quiet_step (first | (with_reducible exact hcn.out _ _) | (with_reducible exact hcb.out _ _) | (with_reducible exact hcx.out _ _)))
    refine wpQuiet_nil ?_
    intro _ hw'
    obtain ⟨⟨dq, osq⟩, hw''⟩ := hw'
    subst hw''
    have hb9 := below_regrown W dq osq
    generalize Go.Sort.grow (redrawn W dq) osq = W9 at hb9 ⊢
    have hX5 := hXa.out.below hb9 hxlW
    have hxl5 : w.heap.size < W9.heap.size := Nat.lt_of_lt_of_le hxlW hb9.size
    have hB5 := hBW.trans (hb9.mono hBW.size)
    clear m0 m1 m2 hb9
    go_wp2_with fail
    go_roundw
    case rel => exact ⟨k + 1, by go_num, by omega, all_next hall.out hok.out, hX5, hxl5, hB5⟩
    case measure => simp [intOf]; omega

  have hkl : k < d.pens.length := by rw [l1.out]; exact hlt
  obtain ⟨b1, f1, ⟨x0, K1⟩, ⟨A1, n1, c1⟩, hAe, hba, hbx, hja, hcs, hr1p⟩ := pen_at (hr1.out.frame good_pen (Below.sameB hbel hhi)) hlt
  subst hAe
  have q0 := hcs 0 _ rfl
  have q1 := hcs 1 _ rfl
  simp only [Nat.add_zero] at q0 q1
  have hbw : b1 < wr.heap.size := by omega
  have hki : (0 : Int) ≤ (k : Int) ∧ (k : Int) < (pn : Int) := by omega
  have hkc : (k : Int) ≤ (pc : Int) := by omega
  have hst := hs.out.pens _ (List.mem_of_getElem? hja)
  have hsx : x0.size ≤ 9223372036854775807 := by have := hst.1; unfold maxLen at this; exact this
  have hn1 : n1 ≤ 1048576 := Nat.le_trans (Nat.le_of_eq hr1p.1.symm) (hm.out.pens.2 _ (List.mem_of_getElem? hja))
  have hal := okPen_take hja
  simp only at hal
  obtain ⟨tN, hNm⟩ : ∃ u, u = nameB x0 := ⟨_, rfl⟩
  obtain ⟨tB, hPB⟩ : ∃ u, u = penB K1 := ⟨_, rfl⟩
  obtain ⟨ix, hix⟩ : ∃ u, u = penIdx (d.pens.take k) x0 := ⟨_, rfl⟩
  rw [← hNm, ← hPB, ← hix] at hal
  have hBa := Go.Joins.below_alloc1 wr (.cells #[.string x0, .slice A1 n1 c1] 87 (0, 0))
  have hYa := heap_alloc_new wr (.cells #[.string x0, .slice A1 n1 c1] 87 (0, 0))
  have hXa := hbox.out.alloc hxl (.cells #[.string x0, .slice A1 n1 c1] 87 (0, 0))
  have g0 : (wr.alloc (.cells #[.string x0, .slice A1 n1 c1] 87 (0, 0))).cell? ⟨wr.heap.size, 0, none⟩ = some (.string x0) := by rw [Go.Joins.cell_of_block hYa]; rfl
  have g1 : (wr.alloc (.cells #[.string x0, .slice A1 n1 c1] 87 (0, 0))).cell? ⟨wr.heap.size, 1, none⟩ = some (.slice A1 n1 c1) := by rw [Go.Joins.cell_of_block hYa]; rfl
  have g2 : (wr.alloc (.cells #[.string x0, .slice A1 n1 c1] 87 (0, 0))).cell? ⟨w.heap.size, 1, none⟩ = some (.slice (some ⟨b1, f1, none⟩) pn pc) := hXa.2.1
  have hYl : wr.heap.size < (wr.alloc (.cells #[.string x0, .slice A1 n1 c1] 87 (0, 0))).heap.size := by simp
  obtain ⟨W, hW⟩ : ∃ W, W = wr.alloc (.cells #[.string x0, .slice A1 n1 c1] 87 (0, 0)) := ⟨_, rfl⟩
  rw [← hW] at hBa hXa g0 g1 g2 hYl
  have hBW := hbel.trans (hBa.mono hsz)
  have hxlW : w.heap.size < W.heap.size := Nat.lt_of_lt_of_le hxl hBa.size
  have m0 : ∀ dr os, (Go.Sort.grow (redrawn W dr) os).cell? ⟨wr.heap.size, 0, none⟩ = some (.string x0) := cell_regrown g0
  have m1 : ∀ dr os, (Go.Sort.grow (redrawn W dr) os).cell? ⟨wr.heap.size, 1, none⟩ = some (.slice A1 n1 c1) := cell_regrown g1
  have m2 : ∀ dr os, (Go.Sort.grow (redrawn W dr) os).cell? ⟨w.heap.size, 1, none⟩ = some (.slice (some ⟨b1, f1, none⟩) pn pc) := cell_regrown g2
  have hcn := Lib.hid (fun dr os => calls_kept (fun w => implIsName_k x0 tN hNm w hsx) W dr os)
  have hcb := Lib.hid (fun dr os => Calls.regrown_of (isPen_any A1 n1 c1 lo hi K1 tB hPB (Go.Sort.grow (redrawn W dr) os) ((hr1p.frame (good_flat _) (Below.sameB hBa (Nat.le_trans hhi hsz))).frame (good_flat _) (Below.sameB (below_regrown W dr os) (Nat.le_trans hhi hBW.size))) (Nat.le_trans hhi (Nat.le_trans hBW.size (below_regrown W dr os).size)) (by omega)))
  have hcx := Lib.hid (fun dr os => Calls.regrown_of (findPen_any x0 (some ⟨b1, f1, none⟩) k pc lo hi (d.pens.take k) (Go.Sort.grow (redrawn W dr) os) (((hr1.out.frame good_pen (Below.sameB hBW hhi)).take hk).frame good_pen (Below.sameB (below_regrown W dr os) (Nat.le_trans hhi hBW.size))) (Nat.le_trans hhi (Nat.le_trans hBW.size (below_regrown W dr os).size)) (by omega)))
  rw [← hix] at hcx
  replace hal := Lib.hid hal
  replace hNm := Lib.hid hNm
  replace hix := Lib.hid hix
  replace hPB := Lib.hid hPB
  replace hXa := Lib.hid hXa
  clear hcs hst hsx hja hr1p hYa g0 g1 g2
  go_wp2_with fail
  rw [← hW]
  replace hW := Lib.hid hW
  clear q0 q1
  have hkc2 : (0 : Int) ≤ (k : Int) ∧ (k : Int) ≤ (pc : Int) := by omega
  have hkc3 : k ≤ pc := by omega
  cases tN with
  | false =>
    have hok : okPen d.pens k = false := by rw [hal.out]; rfl
    have htf : t = false := by rw [ht.out]; exact scene_no (.inr (.inl (lists_no1 hkl hok)))
    subst htf
    clear hok
    refine wp_region_quiet_below (by kernel_rfl) (by kernel_rfl) ?_
    repeat (go_big_quiet_step (first | (with_reducible exact hcn.out _ _) | (with_reducible exact hcb.out _ _) | (with_reducible exact hcx.out _ _)))
    refine wpQuiet_nil ?_
    intro _ hw'
    obtain ⟨⟨dq, osq⟩, hw''⟩ := hw'
    subst hw''
    have hb9 := below_regrown W dq osq
    generalize Go.Sort.grow (redrawn W dq) osq = W9 at hb9 ⊢
    have hB5 := hBW.trans (hb9.mono hBW.size)
    clear m0 m1 m2 hb9
    go_wp2_with fail
    go_ret
    exact ⟨rfl, hB5⟩
  | true =>
  cases tB with
  | false =>
    have hok : okPen d.pens k = false := by rw [hal.out]; rfl
    have htf : t = false := by rw [ht.out]; exact scene_no (.inr (.inl (lists_no1 hkl hok)))
    subst htf
    clear hok
    refine wp_region_quiet_below (by kernel_rfl) (by kernel_rfl) ?_
    repeat (go_big_quiet_step (first | (with_reducible exact hcn.out _ _) | (with_reducible exact hcb.out _ _) | (with_reducible exact hcx.out _ _)))
    refine wpQuiet_nil ?_
    intro _ hw'
    obtain ⟨⟨dq, osq⟩, hw''⟩ := hw'
    subst hw''
    have hb9 := below_regrown W dq osq
    generalize Go.Sort.grow (redrawn W dq) osq = W9 at hb9 ⊢
    have hB5 := hBW.trans (hb9.mono hBW.size)
    clear m0 m1 m2 hb9
    go_wp2_with fail
    go_ret
    exact ⟨rfl, hB5⟩
  | true =>
  by_cases hi0 : 0 ≤ ix
  · have hok : okPen d.pens k = false := by rw [hal.out, decide_eq_false (by omega : ¬ ix < 0)]; rfl
    have htf : t = false := by rw [ht.out]; exact scene_no (.inr (.inl (lists_no1 hkl hok)))
    subst htf
    clear hok
    refine wp_region_quiet_below (by kernel_rfl) (by kernel_rfl) ?_
    repeat (go_big_quiet_step (first | (with_reducible exact hcn.out _ _) | (with_reducible exact hcb.out _ _) | (with_reducible exact hcx.out _ _)))
    refine wpQuiet_nil ?_
    intro _ hw'
    obtain ⟨⟨dq, osq⟩, hw''⟩ := hw'
    subst hw''
    have hb9 := below_regrown W dq osq
    generalize Go.Sort.grow (redrawn W dq) osq = W9 at hb9 ⊢
    have hB5 := hBW.trans (hb9.mono hBW.size)
    clear m0 m1 m2 hb9
    go_wp2_with fail
    go_ret
    exact ⟨rfl, hB5⟩
  have hok : okPen d.pens k = true := by rw [hal.out, decide_eq_true (by omega : ix < 0)]; rfl
  replace hok := Lib.hid hok
  refine wp_region_quiet_below (by kernel_rfl) (by kernel_rfl) ?_
  repeat (go_big_quiet_step (first | (with_reducible exact hcn.out _ _) | (with_reducible exact hcb.out _ _) | (with_reducible exact hcx.out _ _)))
  refine wpQuiet_nil ?_
  intro _ hw'
  obtain ⟨⟨dq, osq⟩, hw''⟩ := hw'
  subst hw''
  have hb9 := below_regrown W dq osq
  generalize Go.Sort.grow (redrawn W dq) osq = W9 at hb9 ⊢
  have hX5 := hXa.out.below hb9 hxlW
  have hxl5 : w.heap.size < W9.heap.size := Nat.lt_of_lt_of_le hxlW hb9.size
  have hB5 := hBW.trans (hb9.mono hBW.size)
  clear m0 m1 m2 hb9
  go_wp2_with fail
  go_roundw
  case rel => exact ⟨k + 1, by go_num, by omega, all_next hall.out hok.out, hX5, hxl5, hB5⟩
  case measure => simp [intOf]; omega
end Go.Proofs.YtfkidklpjiiclaaGreat

/- The decimal digits of a number: plain facts. No program in sight. Conditions: none. -/
namespace Go.Proofs.YtfkidklpjiiclaaGreat
open Go.RowKit
set_option linter.unusedVariables false
set_option maxRecDepth 100000

/-- the digits of a number, none of 0 -/
def digsF : Nat → Nat → List UInt8
  | 0, _ => []
  | f + 1, n => if n = 0 then [] else digsF f (n / 10) ++ [UInt8.ofNat (48 + n % 10)]
def digs (n : Nat) : List UInt8 := digsF n n

theorem digsF_enough : ∀ (f g n : Nat), n ≤ f → n ≤ g → digsF f n = digsF g n := by
  intro f
  induction f with
  | zero =>
    intro g n h _
    have : n = 0 := by omega
    subst this
    cases g <;> simp [digsF]
  | succ f ih =>
    intro g n h h'
    cases g with
    | zero =>
      have : n = 0 := by omega
      subst this
      simp [digsF]
    | succ g =>
      simp only [digsF]
      split
      · rfl
      · rw [ih g (n / 10) (by omega) (by omega)]
theorem digs_zero : digs 0 = [] := rfl
theorem digs_step {n : Nat} (h : n ≠ 0) : digs n = digs (n / 10) ++ [UInt8.ofNat (48 + n % 10)] := by
  unfold digs
  cases n with
  | zero => exact absurd rfl h
  | succ n =>
    simp only [digsF, Nat.add_eq_zero_iff, Nat.succ_ne_self, and_false, if_false]
    rw [digsF_enough n ((n + 1) / 10) ((n + 1) / 10) (by omega) (Nat.le_refl _)]
theorem digs_len : ∀ (f n : Nat), n < 10 ^ f → (digs n).length ≤ f := by
  intro f
  induction f with
  | zero => intro n h; have : n = 0 := by simpa using h
            subst this; simp [digs_zero]
  | succ f ih =>
    intro n h
    by_cases h0 : n = 0
    · subst h0; simp [digs_zero]
    · rw [digs_step h0]
      have := ih (n / 10) (by rw [Nat.pow_succ] at h; omega)
      simp; omega
theorem digs_len19 {n : Nat} (h : n ≤ 9223372036854775808) : (digs n).length ≤ 19 := digs_len 19 n (by omega)
theorem digs_ne {n : Nat} (h : n ≠ 0) : digs n ≠ [] := by rw [digs_step h]; simp

/-- the decimal form -/
def dec1 (n : Nat) : List UInt8 := if n = 0 then [48] else digs n
def decL (n : Int) : List UInt8 := (if n < 0 then [45] else []) ++ dec1 n.natAbs
def decS (n : Int) : ByteArray := ⟨(decL n).toArray⟩
theorem dec1_len {n : Nat} (h : n ≤ 9223372036854775808) : (dec1 n).length ≤ 19 := by
  unfold dec1; split
  · simp
  · exact digs_len19 h
theorem decL_len {n : Int} (h1 : -9223372036854775808 ≤ n) (h2 : n ≤ 9223372036854775807) : (decL n).length ≤ 20 := by
  unfold decL
  have := dec1_len (n := n.natAbs) (by omega)
  rw [List.length_append]
  split <;> simp <;> omega

theorem natAbs_tdiv10 (k : Int) : (k.tdiv 10).natAbs = k.natAbs / 10 := by rw [Int.natAbs_tdiv]; rfl
theorem tmod10_neg {x : Int} (h : x < 0) : x.tmod 10 ≤ 0 ∧ -9 ≤ x.tmod 10 ∧ x.tmod 10 = -((x.natAbs % 10 : Nat) : Int) ∧ x.tdiv 10 = -((x.natAbs / 10 : Nat) : Int) := by
  obtain ⟨y, rfl⟩ : ∃ y : Nat, x = -(y : Int) := ⟨x.natAbs, by omega⟩
  rw [Int.neg_tmod, Int.neg_tdiv, Int.natAbs_neg, Int.natAbs_natCast]
  have e1 : ((y : Int).tmod 10) = ((y % 10 : Nat) : Int) := by rw [Int.tmod_eq_emod_of_nonneg (by omega)]; omega
  have e2 : ((y : Int).tdiv 10) = ((y / 10 : Nat) : Int) := by rw [Int.tdiv_eq_ediv_of_nonneg (by omega)]; omega
  rw [e1, e2]
  omega
theorem byteV_digit (d : Nat) (ds : List UInt8) (v : Int) (h : v = 48 + (d % 10 : Nat)) : byteV (UInt8.ofNat (48 + d % 10) :: ds) = [.int .u8 v] ++ byteV ds := by
  have h8 : (UInt8.ofNat (48 + d % 10)).toNat = 48 + d % 10 := by
    rw [UInt8.toNat_ofNat']; omega
  simp only [byteV, List.map_cons, h8, List.cons_append, List.nil_append]
  congr 2; omega
end Go.Proofs.YtfkidklpjiiclaaGreat

/- Contracts of the functions that give a number in decimal. Conditions: as each states. -/
namespace Go.Proofs.YtfkidklpjiiclaaGreat
open Go.RowKit
set_option linter.unusedVariables false
set_option maxRecDepth 100000

theorem elemU8 : Elem Tryz.prog 180 5 1 1 := elem_mk (z := .int .u8 0) Tryz.underlying180 (by kernel_rfl) rfl (by omega)

theorem l01Dec_any (n : Int) (w : World) (h1 : -9223372036854775808 ≤ n) (h2 : n ≤ 9223372036854775807) :
    Calls Tryz.prog 41 #[.int .i64 n] w fun e w' => e = .returned (.string (decS n)) ∧ Below w.heap.size w w' := by
  go_enter Tryz.func41, Tryz.ntmps41
  go_wp2
  go_loopw [3, 4] (fun out k wr => ∃ (x : Int) (ds : List UInt8) (A : Option Addr) (c : Nat), k = .int .i64 x ∧ -9223372036854775808 ≤ x ∧ x ≤ 9223372036854775807 ∧ (digs x.natAbs ++ ds = digs n.natAbs) ∧ out = .slice A ds.length c ∧ wr.ownsRow w.heap.size 5 1 (.slice A ds.length c) ds.length (byteV ds) ∧ Below w.heap.size w wr) (fun out k wr => (intOf k).natAbs)
  case atStart => exact ⟨n, [], _, _, rfl, h1, h2, by simp, rfl, World.ownsRow_lit w _ _ (Nat.le_refl _) (by decide) (by simp), (Below.refl _ _).alloc (Nat.le_refl _) _⟩
  case round =>
    obtain ⟨x, ds, A, c, rfl, hx1, hx2, hds, rfl, hown, hbel⟩ := hrel
    replace hds := Lib.hid hds
    have hlen : ds.length ≤ 19 := by
      have := digs_len19 (n := n.natAbs) (by omega)
      rw [← hds.out, List.length_append] at this; omega
    replace hown := Lib.hid hown
    have hsz := hbel.size
    by_cases hx0 : 0 < x
    · have hne : (x == 0) = false := by simp; omega
      have hst := Lib.hid (digs_step (n := x.natAbs) (by omega))
      go_wp2_with (at_builtin; refine wpApp rfl (.tmp 21) (.tmp 22) elemU8 rfl (base := w.heap.size) (n := 1) (xs := [.int .u8 (48 + x % 10)]) rfl (World.ownsRow_lit wr #[.int .u8 (48 + x % 10)] 1 (by omega) (by decide) (by simp)) rfl (src_own (hown.out.alloc _) (byteV_one ds)) (by omega) (by omega) (by simp; omega) (ds.length + 1) (by omega) ?_)
      intro A' c' w1 hown1 hb1
      have hb2 := (hbel.alloc hsz _).trans hb1
      replace hown1 := Lib.hid hown1
      clear hb1
      go_wp2
      go_roundw
      case rel =>
        refine ⟨x / 10, UInt8.ofNat (48 + x.natAbs % 10) :: ds, A', c', rfl, by omega, by omega, ?_, rfl, ?_, hb2⟩
        · have : (x / 10).natAbs = x.natAbs / 10 := by omega
          rw [this, ← hds.out, hst.out]; simp
        · rw [byteV_digit x.natAbs ds (48 + x % 10) (by omega)]; exact hown1.out
      case measure => simp [intOf]; omega
    by_cases hx1 : x < 0
    · have hne : (x == 0) = false := by simp; omega
      have hst := Lib.hid (digs_step (n := x.natAbs) (by omega))
      obtain ⟨hm1, hm2, hm3, hm4⟩ := tmod10_neg hx1
      replace hm3 := Lib.hid hm3
      replace hm4 := Lib.hid hm4
      have hq1 : -9223372036854775808 ≤ x.tdiv 10 := by rw [hm4.out]; omega
      have hq2 : x.tdiv 10 ≤ 0 := by rw [hm4.out]; omega
      by_cases hz : x.tmod 10 < 0
      · go_wp2_with (at_builtin; refine wpApp rfl (.tmp 21) (.tmp 22) elemU8 rfl (base := w.heap.size) (n := 1) (xs := [.int .u8 (48 + -(x.tmod 10))]) rfl (World.ownsRow_lit wr #[.int .u8 (48 + -(x.tmod 10))] 1 (by omega) (by decide) (by simp)) rfl (src_own (hown.out.alloc _) (byteV_one ds)) (by omega) (by omega) (by simp; omega) (ds.length + 1) (by omega) ?_)
        intro A' c' w1 hown1 hb1
        have hb2 := (hbel.alloc hsz _).trans hb1
        replace hown1 := Lib.hid hown1
        clear hb1
        go_wp2
        go_roundw
        case rel =>
          refine ⟨x.tdiv 10, UInt8.ofNat (48 + x.natAbs % 10) :: ds, A', c', rfl, by omega, by omega, ?_, rfl, ?_, hb2⟩
          · rw [natAbs_tdiv10, ← hds.out, hst.out]; simp
          · rw [byteV_digit x.natAbs ds (48 + -(x.tmod 10)) (by rw [hm3.out]; omega)]; exact hown1.out
        case measure => simp only [intOf]; have := natAbs_tdiv10 x; omega
      · go_wp2_with (at_builtin; refine wpApp rfl (.tmp 21) (.tmp 22) elemU8 rfl (base := w.heap.size) (n := 1) (xs := [.int .u8 (48 + x.tmod 10)]) rfl (World.ownsRow_lit wr #[.int .u8 (48 + x.tmod 10)] 1 (by omega) (by decide) (by simp)) rfl (src_own (hown.out.alloc _) (byteV_one ds)) (by omega) (by omega) (by simp; omega) (ds.length + 1) (by omega) ?_)
        intro A' c' w1 hown1 hb1
        have hb2 := (hbel.alloc hsz _).trans hb1
        replace hown1 := Lib.hid hown1
        clear hb1
        go_wp2
        go_roundw
        case rel =>
          refine ⟨x.tdiv 10, UInt8.ofNat (48 + x.natAbs % 10) :: ds, A', c', rfl, by omega, by omega, ?_, rfl, ?_, hb2⟩
          · rw [natAbs_tdiv10, ← hds.out, hst.out]; simp
          · rw [byteV_digit x.natAbs ds (48 + x.tmod 10) (by have := hm3.out; omega)]; exact hown1.out
        case measure => simp only [intOf]; have := natAbs_tdiv10 x; omega
    · obtain rfl : x = 0 := by omega
      have hds' : ds = digs n.natAbs := by have := hds.out; simpa [digs_zero] using this
      have hstr := run_bytes_str (P := Tryz.prog) (src := 180) (dst := 9) (w := wr) (c := c) Tryz.underlying180 Tryz.underlying5 Tryz.underlying9 (src_own hown.out (byteV_one ds)) (by
        rintro rfl
        rcases hown.out.2 with ⟨h, _⟩ | ⟨g, _, _, h, _⟩
        · injection h
        · injection h with h; cases h)
      replace hds' := Lib.hid hds'
      by_cases hn0 : n = 0
      · subst hn0
        have hl : ds.length = 0 := by rw [hds'.out]; rfl
        go_wp2
        go_ret
        exact ⟨rfl, hbel⟩
      · have hl : 0 < ds.length := List.length_pos_iff.2 (by rw [hds'.out]; exact digs_ne (by omega))
        have hl2 : ((ds.length : Int) == 0) = false := beq_eq_false_iff_ne.2 (by omega)
        by_cases hneg : n < 0
        · go_wp2
          go_ret
          refine ⟨ret_string ?_, hbel⟩
          unfold decS decL dec1
          rw [if_pos hneg, if_neg (by omega), ← hds'.out]
          exact ByteArray.mk_append_mk [45] ds
        · go_wp2
          go_ret
          refine ⟨ret_string ?_, hbel⟩
          unfold decS decL dec1
          rw [if_neg (by omega), if_neg (by omega), ← hds'.out]
          rfl

/-- the buffer of the digits: from p on it holds ds -/
def DBuf (w : World) (B p : Nat) (ds : List UInt8) : Prop := ∃ cs : List Value, w.heap[B]? = some (.cells cs.toArray 245 (0, 0)) ∧ cs.length = 20 ∧ p + ds.length = 20 ∧ cs.drop p = byteV ds
theorem DBuf.le {w : World} {B p : Nat} {ds : List UInt8} (h : DBuf w B p ds) : p ≤ 20 := by obtain ⟨_, _, _, h, _⟩ := h; omega
theorem DBuf.len {w : World} {B p : Nat} {ds : List UInt8} (h : DBuf w B p ds) : p + ds.length = 20 := by obtain ⟨_, _, _, h, _⟩ := h; omega
theorem DBuf.cell {w : World} {B p : Nat} {ds : List UInt8} (h : DBuf w B p ds) (q : Nat) (hq : q < 20) : ∃ v, w.cell? ⟨B, q, none⟩ = some v := by
  obtain ⟨cs, h1, h2, _, _⟩ := h
  exact ⟨cs[q], by rw [cell_of_row _ _ _ _ _ _ h1]; simp [h2, hq]⟩
theorem DBuf.frozen {w : World} {B p : Nat} {ds : List UInt8} (h : DBuf w B p ds) (q : Nat) : w.frozen? ⟨B, q, none⟩ = false := by
  obtain ⟨cs, h1, h2, _, _⟩ := h
  simp [World.frozen?, h1]
theorem dbuf_new (w : World) : DBuf (w.alloc (.cells #[.int .u8 0, .int .u8 0, .int .u8 0, .int .u8 0, .int .u8 0, .int .u8 0, .int .u8 0, .int .u8 0, .int .u8 0, .int .u8 0, .int .u8 0, .int .u8 0, .int .u8 0, .int .u8 0, .int .u8 0, .int .u8 0, .int .u8 0, .int .u8 0, .int .u8 0, .int .u8 0] 245)) w.heap.size 20 [] :=
  ⟨_, heap_alloc_new w _, rfl, rfl, rfl⟩
theorem DBuf.set {w : World} {B q : Nat} {ds : List UInt8} (h : DBuf w B (q + 1) ds) (c : UInt8) : DBuf (w.setCell ⟨B, q, none⟩ (.int .u8 c.toNat)) B q (c :: ds) := by
  obtain ⟨cs, h1, h2, h3, h4⟩ := h
  refine ⟨cs.set q (.int .u8 c.toNat), ?_, by simp [h2], by simp; omega, ?_⟩
  · simp [World.setCell, Array.getElem?_modify, h1]
  · rw [List.drop_eq_getElem_cons (by simp; omega)]
    simp only [List.getElem_set_self, byteV, List.map_cons]
    congr 1
    rw [List.drop_set_of_lt (by omega), h4]; rfl

theorem DBuf.src {w : World} {B p : Nat} {ds : List UInt8} (h : DBuf w B p ds) : Src w 1 (some ⟨B, p, none⟩) (20 - p) (byteV ds) := by
  obtain ⟨cs, h1, h2, h3, h4⟩ := h
  refine ⟨by simp; omega, byteV_one ds, fun _ => ⟨_, rfl, fun j u hu => ?_⟩⟩
  have : (⟨B, p, none⟩ : Addr).add j = ⟨B, p + j, none⟩ := by unfold Addr.add; split <;> simp_all
  rw [this, cell_of_row _ _ _ _ _ _ h1]
  rw [← h4, List.getElem?_drop] at hu
  simpa using hu
theorem run_sliceDig (B q : Nat) (hq : q < 20) (W : World) : (Instr.sliceAt 245 (.pointer (some ⟨B, 0, none⟩)) (some (.int .i64 (q : Int))) none none).run Tryz.prog W = .ok (.slice (some ⟨B, q, none⟩) (20 - q) (20 - q)) W := by
  have e : Tryz.prog.arrayLen 245 = 20 := by kernel_rfl
  have e2 : ∀ W, (sizeOf (Tryz.prog.elem 245)).run Tryz.prog W = .ok 1 W := fun W => by kernel_rfl
  rw [run_sliceAt_array_l (P := Tryz.prog) W 245 ⟨B, 0, none⟩ (by kernel_rfl) .i64 q (by omega) (by rw [e]; omega), e2, e]
  simp only [Result.andThen, slicedAt, Int.toNat_natCast, Addr.add]
  rw [if_neg (by omega)]
  by_cases h0 : q = 0
  · subst h0; simp
  · simp [h0]
theorem run_digStr {W : World} {B q : Nat} {ds : List UInt8} (hd : DBuf W B q ds) : (convert 180 9 (.slice (some ⟨B, q, none⟩) (20 - q) (20 - q))).run Tryz.prog W = .ok (.string ⟨ds.toArray⟩) W :=
  run_bytes_str (P := Tryz.prog) (src := 180) (dst := 9) Tryz.underlying180 Tryz.underlying5 Tryz.underlying9 hd.src (by intro h; cases h)

theorem u64_neg {n : Int} (h1 : -9223372036854775808 ≤ n) (h2 : n < 0) : IntKind.u64.wrap (-IntKind.u64.wrap n) = ((n.natAbs : Nat) : Int) := by
  simp only [IntKind.wrap, IntKind.signed, IntKind.bits]
  simp
  omega

theorem implDec_any (n : Int) (w : World) (h1 : -9223372036854775808 ≤ n) (h2 : n ≤ 9223372036854775807) :
    Calls Tryz.prog 93 #[.int .i64 n] w fun e w' => e = .returned (.string (decS n)) ∧ Below w.heap.size w w' := by
  by_cases hneg : n < 0
  · go_enter Tryz.func93, Tryz.ntmps93
    go_wp2
    go_loopw [4, 5] (fun at_ u wr => ∃ (x : Nat) (ds : List UInt8) (p : Nat), at_ = .int .i64 p ∧ u = .int .u64 x ∧ x ≤ 9223372036854775808 ∧ DBuf wr w.heap.size p ds ∧ (x ≠ 0 ∧ digs x ++ ds = dec1 n.natAbs ∨ x = 0 ∧ ds = [] ∧ dec1 n.natAbs = [48]) ∧ Below w.heap.size w wr) (fun at_ u wr => (intOf at_).toNat)
    case atStart =>
      refine ⟨n.natAbs, [], 20, rfl, by rw [u64_neg h1 hneg], by omega, dbuf_new w, ?_, (Below.refl _ _).alloc (Nat.le_refl _) _⟩
      by_cases h0 : n.natAbs = 0
      · right; exact ⟨h0, rfl, by rw [h0]; rfl⟩
      · left; exact ⟨h0, by unfold dec1; rw [if_neg h0]; simp⟩
    case round =>
      obtain ⟨x, ds, p, rfl, rfl, hx, hbuf, hinv, hbel⟩ := hrel
      have hp : p ≤ 20 := hbuf.le
      have hp0 : 1 ≤ p := by
        have h := hbuf.len
        have h2 : ds.length + 1 ≤ 19 ∨ ds.length = 0 := by
          rcases hinv with ⟨h0, hd⟩ | ⟨_, rfl, _⟩
          · have h3 := dec1_len (n := n.natAbs) (by omega)
            have h4 : 0 < (digs x).length := List.length_pos_iff.2 (digs_ne h0)
            rw [← hd, List.length_append] at h3
            left; omega
          · right; rfl
        omega
      obtain ⟨q, rfl⟩ : ∃ q, p = q + 1 := ⟨p - 1, by omega⟩
      obtain ⟨vold, hcell⟩ := hbuf.cell q (by omega)
      have hfr := hbuf.frozen q
      have hset := hbuf.set (UInt8.ofNat (48 + x % 10))
      have h8 : ((UInt8.ofNat (48 + x % 10)).toNat : Int) = 48 + (x : Int) % 10 := by rw [UInt8.toNat_ofNat']; omega
      rw [h8] at hset
      replace hset := Lib.hid hset
      clear h8
      replace hinv := Lib.hid hinv
      have hlenq := hbuf.len
      by_cases hx10 : x < 10
      · have ht : ((x : Int) / 10 == 0) = true := by simp; omega
        have hfin : UInt8.ofNat (48 + x % 10) :: ds = dec1 n.natAbs := by
          rcases hinv.out with ⟨h0, hd⟩ | ⟨rfl, rfl, hd⟩
          · rw [← hd, digs_step h0, show x / 10 = 0 by omega]; rfl
          · rw [hd]; rfl
        replace hfin := Lib.hid hfin
        have hl19 : ds.length + 1 ≤ 19 := by
          have h3 := dec1_len (n := n.natAbs) (by omega)
          rw [← hfin.out] at h3
          simpa using h3
        obtain ⟨r, rfl⟩ : ∃ r, q = r + 1 := ⟨q - 1, by omega⟩
        obtain ⟨vold2, hcell2⟩ := hbuf.cell r (by omega)
        have hfr2 := hbuf.frozen r
        have hsl := run_sliceDig w.heap.size r (by omega)
        have hstr := run_digStr (hset.out.set 45)
        have hof : ((45 : UInt8).toNat : Int) = 45 := rfl
        rw [hof] at hstr
        clear hof
        go_wp2
        go_ret
        refine ⟨ret_string ?_, (hbel.setCell (Nat.le_refl _) _).setCell (Nat.le_refl _) _⟩
        unfold decS decL
        rw [if_pos (by omega), ← hfin.out]; simp
      · have ht : ((x : Int) / 10 == 0) = false := by simp; omega
        go_wp2
        go_roundw
        case rel =>
          refine ⟨x / 10, UInt8.ofNat (48 + x % 10) :: ds, q, rfl, by go_num, by omega, hset.out, ?_, hbel.setCell (Nat.le_refl _) _⟩
          rcases hinv.out with ⟨h0, hd⟩ | ⟨h0, _⟩
          · left; exact ⟨by omega, by rw [← hd, digs_step h0]; simp⟩
          · omega
        case measure => simp [intOf] <;> omega
  · go_enter Tryz.func93, Tryz.ntmps93
    go_wp2
    go_loopw [4, 5] (fun at_ u wr => ∃ (x : Nat) (ds : List UInt8) (p : Nat), at_ = .int .i64 p ∧ u = .int .u64 x ∧ x ≤ 9223372036854775808 ∧ DBuf wr w.heap.size p ds ∧ (x ≠ 0 ∧ digs x ++ ds = dec1 n.natAbs ∨ x = 0 ∧ ds = [] ∧ dec1 n.natAbs = [48]) ∧ Below w.heap.size w wr) (fun at_ u wr => (intOf at_).toNat)
    case atStart =>
      refine ⟨n.natAbs, [], 20, rfl, by go_num, by omega, dbuf_new w, ?_, (Below.refl _ _).alloc (Nat.le_refl _) _⟩
      by_cases h0 : n.natAbs = 0
      · right; exact ⟨h0, rfl, by rw [h0]; rfl⟩
      · left; exact ⟨h0, by unfold dec1; rw [if_neg h0]; simp⟩
    case round =>
      obtain ⟨x, ds, p, rfl, rfl, hx, hbuf, hinv, hbel⟩ := hrel
      have hp : p ≤ 20 := hbuf.le
      have hp0 : 1 ≤ p := by
        have h := hbuf.len
        have h2 : ds.length + 1 ≤ 19 ∨ ds.length = 0 := by
          rcases hinv with ⟨h0, hd⟩ | ⟨_, rfl, _⟩
          · have h3 := dec1_len (n := n.natAbs) (by omega)
            have h4 : 0 < (digs x).length := List.length_pos_iff.2 (digs_ne h0)
            rw [← hd, List.length_append] at h3
            left; omega
          · right; rfl
        omega
      obtain ⟨q, rfl⟩ : ∃ q, p = q + 1 := ⟨p - 1, by omega⟩
      obtain ⟨vold, hcell⟩ := hbuf.cell q (by omega)
      have hfr := hbuf.frozen q
      have hset := hbuf.set (UInt8.ofNat (48 + x % 10))
      have h8 : ((UInt8.ofNat (48 + x % 10)).toNat : Int) = 48 + (x : Int) % 10 := by rw [UInt8.toNat_ofNat']; omega
      rw [h8] at hset
      replace hset := Lib.hid hset
      clear h8
      replace hinv := Lib.hid hinv
      have hlenq := hbuf.len
      by_cases hx10 : x < 10
      · have ht : ((x : Int) / 10 == 0) = true := by simp; omega
        have hfin : UInt8.ofNat (48 + x % 10) :: ds = dec1 n.natAbs := by
          rcases hinv.out with ⟨h0, hd⟩ | ⟨rfl, rfl, hd⟩
          · rw [← hd, digs_step h0, show x / 10 = 0 by omega]; rfl
          · rw [hd]; rfl
        replace hfin := Lib.hid hfin
        have hsl := run_sliceDig w.heap.size q (by omega)
        have hstr := run_digStr hset.out
        go_wp2
        go_ret
        refine ⟨ret_string ?_, hbel.setCell (Nat.le_refl _) _⟩
        unfold decS decL
        rw [if_neg (by omega), ← hfin.out]; simp
      · have ht : ((x : Int) / 10 == 0) = false := by simp; omega
        go_wp2
        go_roundw
        case rel =>
          refine ⟨x / 10, UInt8.ofNat (48 + x % 10) :: ds, q, rfl, by go_num, by omega, hset.out, ?_, hbel.setCell (Nat.le_refl _) _⟩
          rcases hinv.out with ⟨h0, hd⟩ | ⟨h0, _⟩
          · left; exact ⟨by omega, by rw [← hd, digs_step h0]; simp⟩
          · omega
        case measure => simp [intOf] <;> omega
end Go.Proofs.YtfkidklpjiiclaaGreat

