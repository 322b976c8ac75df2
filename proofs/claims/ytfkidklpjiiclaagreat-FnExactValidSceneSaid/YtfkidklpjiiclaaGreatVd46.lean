/- A scene's validity, the program's side. Printed by mk_vs9.py. Conditions: as each states. -/
import Derived.Deep.RegionHeld3
import Derived.Test.YtfkidklpjiiclaaGreatVd37
import Derived.Test.YtfkidklpjiiclaaGreatVd38
import Derived.Test.YtfkidklpjiiclaaGreatVd39
import Derived.Test.YtfkidklpjiiclaaGreatVd28
import Derived.Test.YtfkidklpjiiclaaGreatVd36
import Derived.Test.YtfkidklpjiiclaaGreatVd16
import Derived.Test.YtfkidklpjiiclaaGreatVd45
import Derived.Test.YtfkidklpjiiclaaGreatVd10
namespace Go.Proofs.YtfkidklpjiiclaaGreat
open Go.RowKit
set_option linter.unusedVariables false
set_option maxRecDepth 100000

theorem scene_no {d : ScD} (h : sysB d.rows = false ∨ listsB d.pens d.paths = false ∨ setOk d.set = false ∨ regOk d.shape = false) : sceneB d = false := by
  unfold sceneB
  rcases h with h | h | h | h <;> rw [h] <;> simp
theorem lists_no3 {P : List NamedPenD} {Q : List NamedPathD} (h : 12 < P.length) : listsB P Q = false := by unfold listsB; rw [decide_eq_false (by omega : ¬ P.length ≤ 12)]; simp
theorem lists_no4 {P : List NamedPenD} {Q : List NamedPathD} (h : 24 < Q.length) : listsB P Q = false := by unfold listsB; rw [decide_eq_false (by omega : ¬ Q.length ≤ 24)]; simp
theorem okPen_take {L : List NamedPenD} {k : Nat} {d : NamedPenD} (h : L[k]? = some d) : okPen L k = (nameB d.name && (penB d.L && decide (penIdx (L.take k) d.name < 0))) := by
  rw [okPen_at h, decide_eq_decide.2 (nm_first (f := NamedPenD.name) h), Bool.and_comm (penB _)]
theorem okPath_take {L : List NamedPathD} {k : Nat} {d : NamedPathD} (h : L[k]? = some d) : okPath L k = (nameB d.name && (pathOk d.L && decide (npathIdx (L.take k) d.name < 0))) := by
  rw [okPath_at h, decide_eq_decide.2 (nm_first (f := NamedPathD.name) h), Bool.and_comm (pathOk _)]; rfl

set_option maxHeartbeats 16000000 in
theorem implValidScene_any (d : ScD) (h : ScH) (t : Bool) (ht : t = sceneB d) (lo hi : Nat) (w : World) (hr : ScRk w lo hi d h) (hhi : hi ≤ w.heap.size) (hm : d.small 1048576) (hs : d.str) (hcp : ScCap h) :
    Calls Tryz.prog 8 #[scV d h] w fun e w' => e = .returned (.bool t) ∧ Below w.heap.size w w' := by
  obtain ⟨⟨rA, rn, rc⟩, ⟨pA, pn, pc⟩, ⟨qA, qn, qc⟩, hS, hN, ⟨gA, gn, gc⟩⟩ := h
  obtain ⟨hr0, hr1, hr2, hr3, hr4, hr5⟩ := hr
  obtain ⟨cp1, cp2, cp3⟩ := hcp
  simp only at hr0 hr1 hr2 hr3 hr4 hr5 cp1 cp2 cp3
  obtain ⟨tS, hSy⟩ : ∃ u, u = sysB d.rows := ⟨_, rfl⟩
  obtain ⟨tG, hG⟩ : ∃ u, u = setOk d.set := ⟨_, rfl⟩
  obtain ⟨tR, hR⟩ : ∃ u, u = regOk d.shape := ⟨_, rfl⟩
  have m0 : rn ≤ 1048576 := by rw [← hr0.1]; exact hm.rows.1
  have m1 : pn ≤ 1048576 := by rw [← hr1.1]; exact hm.pens.1
  have m2 : qn ≤ 1048576 := by rw [← hr2.1]; exact hm.paths.1
  have m5 : gn ≤ 1048576 := by rw [← hr5.1]; exact hm.shape.1
  have hcapf : ∀ k, k ≤ 1048576 → k ≤ 1000000000 := fun k hk => Nat.le_trans hk (by omega)
  have l1 := Lib.hid hr1.1
  have l2 := Lib.hid hr2.1
  have l4 := Lib.hid hr4.1.1
  have l5 := Lib.hid hr5.1
  replace hSy := Lib.hid hSy
  replace hG := Lib.hid hG
  replace hR := Lib.hid hR
  replace ht := Lib.hid ht
  replace hr0 := Lib.hid hr0
  replace hr1 := Lib.hid hr1
  replace hr2 := Lib.hid hr2
  replace hr3 := Lib.hid hr3
  replace hr4 := Lib.hid hr4
  replace hr5 := Lib.hid hr5
  replace hm := Lib.hid hm
  replace hs := Lib.hid hs
  replace hcapf := Lib.hid hcapf
  replace cp3 := Lib.hid cp3
  have hB0 := Go.Joins.below_alloc1 w (.cells #[.slice rA rn rc, .slice pA pn pc, .slice qA qn qc, .int .i64 d.set.unit, .slice hS.gl.A hS.gl.n hS.gl.c, .bool d.isOpen, .string d.now.name, .int .i64 d.now.code, .int .i64 d.now.adv, .slice hN.out.A hN.out.n hN.out.c, .slice hN.parts.A hN.parts.n hN.parts.c, .slice hN.anchors.A hN.anchors.n hN.anchors.c, .string d.now.hints, .slice gA gn gc] 63 (0, 0))
  have hx0 := Lib.hid (boxC_new (d := d) (h := ⟨⟨rA, rn, rc⟩, ⟨pA, pn, pc⟩, ⟨qA, qn, qc⟩, hS, hN, ⟨gA, gn, gc⟩⟩) (heap_alloc_new w (.cells #[.slice rA rn rc, .slice pA pn pc, .slice qA qn qc, .int .i64 d.set.unit, .slice hS.gl.A hS.gl.n hS.gl.c, .bool d.isOpen, .string d.now.name, .int .i64 d.now.code, .int .i64 d.now.adv, .slice hN.out.A hN.out.n hN.out.c, .slice hN.parts.A hN.parts.n hN.parts.c, .slice hN.anchors.A hN.anchors.n hN.anchors.c, .string d.now.hints, .slice gA gn gc] 63 (0, 0))) rfl)
  have hl0 : w.heap.size < (w.alloc (.cells #[.slice rA rn rc, .slice pA pn pc, .slice qA qn qc, .int .i64 d.set.unit, .slice hS.gl.A hS.gl.n hS.gl.c, .bool d.isOpen, .string d.now.name, .int .i64 d.now.code, .int .i64 d.now.adv, .slice hN.out.A hN.out.n hN.out.c, .slice hN.parts.A hN.parts.n hN.parts.c, .slice hN.anchors.A hN.anchors.n hN.anchors.c, .string d.now.hints, .slice gA gn gc] 63 (0, 0))).heap.size := by simp
  go_enter Tryz.func8, Tryz.ntmps8
  go_wp2_with fail
  refine (implSysOk_any _ _ _ lo hi d.rows tS hSy.out _ (hr0.out.frame good_row (Below.sameB hB0 hhi)) (Nat.le_trans hhi hB0.size) (hcapf.out _ m0) (fun g hg => hcapf.out _ (hm.out.rows.2 g hg)) hs.out.rows).mono ?_
  rintro e w1 ⟨rfl, hb1⟩
  have hB1 := hB0.trans (hb1.mono hB0.size)
  have hx1 := Lib.hid (hx0.out.below hb1 hl0)
  have hl1 : w.heap.size < w1.heap.size := Nat.lt_of_lt_of_le hl0 hb1.size
  clear hb1 hx0 hl0
  have s1 : w1.cell? ⟨w.heap.size, 1, none⟩ = some (.slice pA pn pc) := hx1.out.2.1
  have s2 : w1.cell? ⟨w.heap.size, 2, none⟩ = some (.slice qA qn qc) := hx1.out.2.2.1
  have s3 : w1.cell? ⟨w.heap.size, 3, none⟩ = some (.int .i64 d.set.unit) := hx1.out.2.2.2.1
  have s4 : w1.cell? ⟨w.heap.size, 4, none⟩ = some (.slice hS.gl.A hS.gl.n hS.gl.c) := hx1.out.2.2.2.2.1
  cases tS with
  | false =>
    have htf : t = false := by rw [ht.out]; exact scene_no (.inl hSy.out.symm)
    subst htf
    go_wp2_with fail
    go_ret
    exact ⟨rfl, hB1⟩
  | true =>
  by_cases h12 : pn ≤ 12
  rotate_left
  · have htf : t = false := by rw [ht.out]; exact scene_no (.inr (.inl (lists_no3 (by rw [l1.out]; omega))))
    subst htf
    have g1 : decide ((12 : Int) < pn) = true := decide_eq_true (by omega)
    have g2 : (12 : Int) < pn := by omega
    
    
    go_wp2_with fail
    go_ret
    exact ⟨rfl, hB1⟩
  by_cases h24 : qn ≤ 24
  rotate_left
  · have htf : t = false := by rw [ht.out]; exact scene_no (.inr (.inl (lists_no4 (by rw [l2.out]; omega))))
    subst htf
    have g1 : decide ((24 : Int) < qn) = true := decide_eq_true (by omega)
    have g2 : (24 : Int) < qn := by omega
    have g3 : decide ((12 : Int) < pn) = false := decide_eq_false (by omega)
    have g4 : ¬ (12 : Int) < pn := by omega
    go_wp2_with fail
    go_ret
    exact ⟨rfl, hB1⟩
  have g1 : decide ((12 : Int) < pn) = false := decide_eq_false (by omega)
  have g2 : ¬ (12 : Int) < pn := by omega
  have g3 : decide ((24 : Int) < qn) = false := decide_eq_false (by omega)
  have g4 : ¬ (24 : Int) < qn := by omega
  go_wp2_with fail
  refine (implValidGS_any d.set hS tG hG.out lo hi w1 (hr3.out.frame good_glyphc (Below.sameB hB1 hhi)) (Nat.le_trans hhi hB1.size) (hm.out.set.mono (by omega)) hs.out.set).mono ?_
  clear s1 s2 s3 s4
  rintro e w2 ⟨rfl, hb2⟩
  have hB2 := hB1.trans (hb2.mono hB1.size)
  have hx2 := Lib.hid (hx1.out.below hb2 hl1)
  have hl2 : w.heap.size < w2.heap.size := Nat.lt_of_lt_of_le hl1 hb2.size
  clear hb2 hx1 hl1
  have s13 : w2.cell? ⟨w.heap.size, 13, none⟩ = some (.slice gA gn gc) := hx2.out.2.2.2.2.2.2.2.2.2.2.2.2.2
  cases tG with
  | false =>
    have htf : t = false := by rw [ht.out]; exact scene_no (.inr (.inr (.inl hG.out.symm)))
    subst htf
    go_wp2_with fail
    go_ret
    exact ⟨rfl, hB2⟩
  | true =>
  go_wp2_with fail
  refine (validRegion_any _ _ _ lo hi d.shape tR hR.out w2 (hr5.out.frame good_ring (Below.sameB hB2 hhi)) (Nat.le_trans hhi hB2.size) m5 hm.out.shape.2).mono ?_
  clear s13
  rintro e w3 ⟨rfl, hb3⟩
  have hB3 := hB2.trans (hb3.mono hB2.size)
  have hx3 := Lib.hid (hx2.out.below hb3 hl2)
  have hl3 : w.heap.size < w3.heap.size := Nat.lt_of_lt_of_le hl2 hb3.size
  clear hb3 hx2 hl2
  have s1 : w3.cell? ⟨w.heap.size, 1, none⟩ = some (.slice pA pn pc) := hx3.out.2.1
  cases tR with
  | false =>
    have htf : t = false := by rw [ht.out]; exact scene_no (.inr (.inr (.inr hR.out.symm)))
    subst htf
    go_wp2_with fail
    go_ret
    exact ⟨rfl, hB3⟩
  | true =>
  go_wp2_with fail
  clear s1
  go_loopw [38] (fun i wr => ∃ k : Nat, i = .int .i64 k ∧ k ≤ pn ∧ (∀ j, j < k → okPen d.pens j = true) ∧ BoxC wr w.heap.size d ⟨⟨rA, rn, rc⟩, ⟨pA, pn, pc⟩, ⟨qA, qn, qc⟩, hS, hN, ⟨gA, gn, gc⟩⟩ ∧ w.heap.size < wr.heap.size ∧ Below w.heap.size w wr) (fun i wr => pn - (intOf i).toNat)
  case atStart => exact ⟨0, rfl, Nat.zero_le _, fun j hj => absurd hj (Nat.not_lt_zero j), hx3.out, hl3, hB3⟩
  case round =>
  obtain ⟨k, rfl, hk, hall, hbox, hxl, hbel⟩ := hrel
  replace hall := Lib.hid hall
  replace hbox := Lib.hid hbox
  have hsz := hbel.size
  by_cases hlt : k < pn
  rotate_left
  · have hallP := Lib.hid (fun j (hj : j < d.pens.length) => hall.out j (by have := l1.out; omega))
    have s2 : wr.cell? ⟨w.heap.size, 2, none⟩ = some (.slice qA qn qc) := hbox.out.2.2.1
    go_wp2_with fail
    clear s2 hall
    generalize wr = xr at *
    go_loopw [67] (fun i wr => ∃ k : Nat, i = .int .i64 k ∧ k ≤ qn ∧ (∀ j, j < k → okPath d.paths j = true) ∧ BoxC wr w.heap.size d ⟨⟨rA, rn, rc⟩, ⟨pA, pn, pc⟩, ⟨qA, qn, qc⟩, hS, hN, ⟨gA, gn, gc⟩⟩ ∧ w.heap.size < wr.heap.size ∧ Below w.heap.size w wr) (fun i wr => qn - (intOf i).toNat)
    case atStart => exact ⟨0, rfl, Nat.zero_le _, fun j hj => absurd hj (Nat.not_lt_zero j), hbox.out, hxl, hbel⟩
    case round =>
    obtain ⟨k, rfl, hk, hall, hbox, hxl, hbel⟩ := hrel
    replace hall := Lib.hid hall
    replace hbox := Lib.hid hbox
    have hsz := hbel.size
    by_cases hlt : k < qn
    rotate_left
    · have hkk : k = qn := by omega
      have htt : t = sceneT d := by
        rw [ht.out, sceneB, ← hSy.out, ← hG.out, ← hR.out, lists_all hallP.out (fun j hj => hall.out j (by have := l2.out; omega)), decide_eq_true (by rw [l1.out]; exact h12), decide_eq_true (by rw [l2.out]; exact h24)]; rfl
      replace htt := Lib.hid htt
      have c5 : wr.cell? ⟨w.heap.size, 5, none⟩ = some (.bool d.isOpen) := hbox.out.2.2.2.2.2.1
      have c6 : wr.cell? ⟨w.heap.size, 6, none⟩ = some (.string d.now.name) := hbox.out.2.2.2.2.2.2.1
      have c7 : wr.cell? ⟨w.heap.size, 7, none⟩ = some (.int .i64 d.now.code) := hbox.out.2.2.2.2.2.2.2.1
      have c8 : wr.cell? ⟨w.heap.size, 8, none⟩ = some (.int .i64 d.now.adv) := hbox.out.2.2.2.2.2.2.2.2.1
      have c9 : wr.cell? ⟨w.heap.size, 9, none⟩ = some (.slice hN.out.A hN.out.n hN.out.c) := hbox.out.2.2.2.2.2.2.2.2.2.1
      have c10 : wr.cell? ⟨w.heap.size, 10, none⟩ = some (.slice hN.parts.A hN.parts.n hN.parts.c) := hbox.out.2.2.2.2.2.2.2.2.2.2.1
      have c11 : wr.cell? ⟨w.heap.size, 11, none⟩ = some (.slice hN.anchors.A hN.anchors.n hN.anchors.c) := hbox.out.2.2.2.2.2.2.2.2.2.2.2.1
      have c12 : wr.cell? ⟨w.heap.size, 12, none⟩ = some (.string d.now.hints) := hbox.out.2.2.2.2.2.2.2.2.2.2.2.2.1
      have c13 : wr.cell? ⟨w.heap.size, 13, none⟩ = some (.slice gA gn gc) := hbox.out.2.2.2.2.2.2.2.2.2.2.2.2.2
      clear hall
      by_cases ho : d.isOpen = true
      · have hts : t = (glyphOk d.now && decide (d.now.out.length = 0)) := by rw [htt.out, sceneT, if_pos ho]
        obtain ⟨tN, hNN⟩ : ∃ u, u = glyphOk d.now := ⟨_, rfl⟩
        rw [← hNN, l4.out] at hts
        replace hts := Lib.hid hts
        rw [ho] at c5
        have hcall := Lib.hid (implValidG_any d.now hN tN hNN lo hi wr (hr4.out.frame (Below.sameB hbel hhi)) (Nat.le_trans hhi hbel.size) (hm.out.now.mono (by omega)) ⟨hs.out.now.1, hs.out.now.2.1, hs.out.now.2.2⟩ cp3.out)
        replace hNN := Lib.hid hNN
        clear ho
        go_wp2_with fail
        refine hcall.out.mono ?_
        rintro e w5 ⟨rfl, hb5⟩
        have hB5 := hbel.trans (hb5.mono hbel.size)
        have d9 := (hb5.cell (p := ⟨w.heap.size, 9, none⟩) hxl).trans c9
        have hpx : w.heap.size < w5.heap.size := Nat.lt_of_lt_of_le hxl hb5.size
        clear hb5
        cases tN with
        | false =>
          have htf : t = false := by rw [hts.out]; rfl
          subst htf
          go_wp2_with fail
          go_ret
          exact ⟨rfl, hB5⟩
        | true =>
          have htq : t = decide (hN.out.n = 0) := by rw [hts.out]; rfl
          replace htq := Lib.hid htq
          go_wp2_with fail
          go_ret
          exact ⟨by rw [htq.out]; simp; rw [Bool.eq_iff_iff]; simp, hB5⟩
      · have ho' : d.isOpen = false := by simpa using ho
        have hts : t = (decide (d.now = zGl) && decide (d.shape.length = 0)) := by rw [htt.out, sceneT, if_neg ho]
        obtain ⟨tN, hNN⟩ : ∃ u, u = decide (d.now = zGl) := ⟨_, rfl⟩
        rw [← hNN, l5.out] at hts
        replace hts := Lib.hid hts
        rw [ho'] at c5
        have hcall := Lib.hid (implSameG_any d.now zGl hN zGlH tN hNN lo hi 0 0 wr (hr4.out.frame (Below.sameB hbel hhi)) (zGl_rd _ _ _) (Nat.le_trans hhi hbel.size) (Nat.zero_le _) (hm.out.now.mono (by omega)) (by constructor <;> simp))
        replace hNN := Lib.hid hNN
        clear ho ho'
        go_wp2_with fail
        refine hcall.out.mono ?_
        rintro e w5 ⟨rfl, hb5⟩
        have hB5 := hbel.trans (hb5.mono hbel.size)
        have d13 := (hb5.cell (p := ⟨w.heap.size, 13, none⟩) hxl).trans c13
        have hpx : w.heap.size < w5.heap.size := Nat.lt_of_lt_of_le hxl hb5.size
        clear hb5
        cases tN with
        | false =>
          have htf : t = false := by rw [hts.out]; rfl
          subst htf
          go_wp2_with fail
          go_ret
          exact ⟨rfl, hB5⟩
        | true =>
          have htq : t = decide (gn = 0) := by rw [hts.out]; rfl
          replace htq := Lib.hid htq
          go_wp2_with fail
          go_ret
          exact ⟨by rw [htq.out]; simp; rw [Bool.eq_iff_iff]; simp, hB5⟩
    have hkl : k < d.paths.length := by rw [l2.out]; exact hlt
    obtain ⟨b1, f1, ⟨x0, K1, x2⟩, ⟨A1, n1, c1⟩, hAe, hba, hbx, hja, hcs, hr1p⟩ := npath_at (hr2.out.frame good_npath (Below.sameB hbel hhi)) hlt
    subst hAe
    have q0 := hcs 0 _ rfl
    have q1 := hcs 1 _ rfl
    have q2 := hcs 2 _ rfl
    simp only [Nat.add_zero] at q0 q1 q2
    have hbw : b1 < wr.heap.size := by omega
    have hki : (0 : Int) ≤ (k : Int) ∧ (k : Int) < (qn : Int) := by omega
    have hkc : (k : Int) ≤ (qc : Int) := by omega
    have hst := hs.out.paths _ (List.mem_of_getElem? hja)
    have hsx : x0.size ≤ 9223372036854775807 := by have := hst.1; unfold maxLen at this; exact this
    have hn1 : n1 ≤ 1048576 := Nat.le_trans (Nat.le_of_eq hr1p.1.symm) (hm.out.paths.2 _ (List.mem_of_getElem? hja))
    have hal := okPath_take hja
    simp only at hal
    obtain ⟨tN, hNm⟩ : ∃ u, u = nameB x0 := ⟨_, rfl⟩
    obtain ⟨tB, hPB⟩ : ∃ u, u = pathOk K1 := ⟨_, rfl⟩
    obtain ⟨ix, hix⟩ : ∃ u, u = npathIdx (d.paths.take k) x0 := ⟨_, rfl⟩
    rw [← hNm, ← hPB, ← hix] at hal
    have hBa := Go.Joins.below_alloc1 wr (.cells #[.string x0, .slice A1 n1 c1, .bool x2] 92 (0, 0))
    have hYa := heap_alloc_new wr (.cells #[.string x0, .slice A1 n1 c1, .bool x2] 92 (0, 0))
    have hXa := hbox.out.alloc hxl (.cells #[.string x0, .slice A1 n1 c1, .bool x2] 92 (0, 0))
    have g0 : (wr.alloc (.cells #[.string x0, .slice A1 n1 c1, .bool x2] 92 (0, 0))).cell? ⟨wr.heap.size, 0, none⟩ = some (.string x0) := by rw [Go.Joins.cell_of_block hYa]; rfl
    have g1 : (wr.alloc (.cells #[.string x0, .slice A1 n1 c1, .bool x2] 92 (0, 0))).cell? ⟨wr.heap.size, 1, none⟩ = some (.slice A1 n1 c1) := by rw [Go.Joins.cell_of_block hYa]; rfl
    have g2 : (wr.alloc (.cells #[.string x0, .slice A1 n1 c1, .bool x2] 92 (0, 0))).cell? ⟨w.heap.size, 2, none⟩ = some (.slice (some ⟨b1, f1, none⟩) qn qc) := hXa.2.2.1
    have hYl : wr.heap.size < (wr.alloc (.cells #[.string x0, .slice A1 n1 c1, .bool x2] 92 (0, 0))).heap.size := by simp
    obtain ⟨W, hW⟩ : ∃ W, W = wr.alloc (.cells #[.string x0, .slice A1 n1 c1, .bool x2] 92 (0, 0)) := ⟨_, rfl⟩
    rw [← hW] at hBa hXa g0 g1 g2 hYl
    have hBW := hbel.trans (hBa.mono hsz)
    have hxlW : w.heap.size < W.heap.size := Nat.lt_of_lt_of_le hxl hBa.size
    have m0 : ∀ dr os, (Go.Sort.grow (redrawn W dr) os).cell? ⟨wr.heap.size, 0, none⟩ = some (.string x0) := cell_regrown g0
    have m1 : ∀ dr os, (Go.Sort.grow (redrawn W dr) os).cell? ⟨wr.heap.size, 1, none⟩ = some (.slice A1 n1 c1) := cell_regrown g1
    have m2 : ∀ dr os, (Go.Sort.grow (redrawn W dr) os).cell? ⟨w.heap.size, 2, none⟩ = some (.slice (some ⟨b1, f1, none⟩) qn qc) := cell_regrown g2
    have hcn := Lib.hid (fun dr os => calls_kept (fun w => implIsName_k x0 tN hNm w hsx) W dr os)
    have hcb := Lib.hid (fun dr os => Calls.regrown_of (isPath_any A1 n1 c1 lo hi K1 tB hPB (Go.Sort.grow (redrawn W dr) os) ((hr1p.frame (good_flat _) (Below.sameB hBa (Nat.le_trans hhi hsz))).frame (good_flat _) (Below.sameB (below_regrown W dr os) (Nat.le_trans hhi hBW.size))) (Nat.le_trans hhi (Nat.le_trans hBW.size (below_regrown W dr os).size)) hn1))
    have hcx := Lib.hid (fun dr os => Calls.regrown_of (findPath_any x0 (some ⟨b1, f1, none⟩) k qc lo hi (d.paths.take k) (Go.Sort.grow (redrawn W dr) os) (((hr2.out.frame good_npath (Below.sameB hBW hhi)).take hk).frame good_npath (Below.sameB (below_regrown W dr os) (Nat.le_trans hhi hBW.size))) (Nat.le_trans hhi (Nat.le_trans hBW.size (below_regrown W dr os).size)) (by omega)))
    rw [← hix] at hcx
    replace hal := Lib.hid hal
    replace hNm := Lib.hid hNm
    replace hix := Lib.hid hix
    replace hPB := Lib.hid hPB
    replace hXa := Lib.hid hXa
    clear hcs hst hsx hja hr1p hYa g0 g1 g2
    go_wp2_with fail
    rw [← hW]
    replace hW := Lib.hid hW
    clear q0 q1 q2
    have hkc2 : (0 : Int) ≤ (k : Int) ∧ (k : Int) ≤ (qc : Int) := by omega
    have hkc3 : k ≤ qc := by omega
    cases tN with
    | false =>
      have hok : okPath d.paths k = false := by rw [hal.out]; rfl
      have htf : t = false := by rw [ht.out]; exact scene_no (.inr (.inl (lists_no2 hkl hok)))
      subst htf
      clear hok
      refine wp_region_quiet_below (by kernel_rfl) (by kernel_rfl) ?_
      repeat (go_big_quiet_step (first | (with_reducible exact hcn.out _ _) | (with_reducible exact hcb.out _ _) | (with_reducible exact hcx.out _ _)))
      refine wpQuiet_nil ?_
      intro _ hw'
      obtain ⟨⟨dq, osq⟩, hw''⟩ := hw'
      subst hw''
      have hb9 := below_regrown W dq osq
      generalize Go.Sort.grow (redrawn W dq) osq = W9 at hb9 ⊢
      have hB5 := hBW.trans (hb9.mono hBW.size)
      clear m0 m1 m2 hb9
      go_wp2_with fail
      go_ret
      exact ⟨rfl, hB5⟩
    | true =>
    cases tB with
    | false =>
      have hok : okPath d.paths k = false := by rw [hal.out]; rfl
      have htf : t = false := by rw [ht.out]; exact scene_no (.inr (.inl (lists_no2 hkl hok)))
      subst htf
      clear hok
      refine wp_region_quiet_below (by kernel_rfl) (by kernel_rfl) ?_
      repeat (go_big_quiet_step (first | (with_reducible exact hcn.out _ _) | (with_reducible exact hcb.out _ _) | (with_reducible exact hcx.out _ _)))
      refine wpQuiet_nil ?_
      intro _ hw'
      obtain ⟨⟨dq, osq⟩, hw''⟩ := hw'
      subst hw''
      have hb9 := below_regrown W dq osq
      generalize Go.Sort.grow (redrawn W dq) osq = W9 at hb9 ⊢
      have hB5 := hBW.trans (hb9.mono hBW.size)
      clear m0 m1 m2 hb9
      go_wp2_with fail
      go_ret
      exact ⟨rfl, hB5⟩
    | true =>
    by_cases hi0 : 0 ≤ ix
    · have hok : okPath d.paths k = false := by rw [hal.out, decide_eq_false (by omega : ¬ ix < 0)]; rfl
      have htf : t = false := by rw [ht.out]; exact scene_no (.inr (.inl (lists_no2 hkl hok)))
      subst htf
      clear hok
      refine wp_region_quiet_below (by kernel_rfl) (by kernel_rfl) ?_
      repeat (go_big_quiet_step (first | (with_reducible exact hcn.out _ _) | (with_reducible exact hcb.out _ _) | (with_reducible exact hcx.out _ _)))
      refine wpQuiet_nil ?_
      intro _ hw'
      obtain ⟨⟨dq, osq⟩, hw''⟩ := hw'
      subst hw''
      have hb9 := below_regrown W dq osq
      generalize Go.Sort.grow (redrawn W dq) osq = W9 at hb9 ⊢
      have hB5 := hBW.trans (hb9.mono hBW.size)
      clear m0 m1 m2 hb9
      go_wp2_with fail
      go_ret
      exact ⟨rfl, hB5⟩
    have hok : okPath d.paths k = true := by rw [hal.out, decide_eq_true (by omega : ix < 0)]; rfl
    replace hok := Lib.hid hok
    refine wp_region_quiet_below (by kernel_rfl) (by kernel_rfl) ?_
    repeat (go_big_quiet_step (first | (with_reducible exact hcn.out _ _) | (with_reducible exact hcb.out _ _) | (with_reducible exact hcx.out _ _)))
    refine wpQuiet_nil ?_
    intro _ hw'
    obtain ⟨⟨dq, osq⟩, hw''⟩ := hw'
    subst hw''
    have hb9 := below_regrown W dq osq
    generalize Go.Sort.grow (redrawn W dq) osq = W9 at hb9 ⊢
    have hX5 := hXa.out.below hb9 hxlW
    have hxl5 : w.heap.size < W9.heap.size := Nat.lt_of_lt_of_le hxlW hb9.size
    have hB5 := hBW.trans (hb9.mono hBW.size)
    clear m0 m1 m2 hb9
    go_wp2_with fail
    go_roundw
    case rel => exact ⟨k + 1, by go_num, by omega, all_next hall.out hok.out, hX5, hxl5, hB5⟩
    case measure => simp [intOf]; omega

  have hkl : k < d.pens.length := by rw [l1.out]; exact hlt
  obtain ⟨b1, f1, ⟨x0, K1⟩, ⟨A1, n1, c1⟩, hAe, hba, hbx, hja, hcs, hr1p⟩ := pen_at (hr1.out.frame good_pen (Below.sameB hbel hhi)) hlt
  subst hAe
  have q0 := hcs 0 _ rfl
  have q1 := hcs 1 _ rfl
  simp only [Nat.add_zero] at q0 q1
  have hbw : b1 < wr.heap.size := by omega
  have hki : (0 : Int) ≤ (k : Int) ∧ (k : Int) < (pn : Int) := by omega
  have hkc : (k : Int) ≤ (pc : Int) := by omega
  have hst := hs.out.pens _ (List.mem_of_getElem? hja)
  have hsx : x0.size ≤ 9223372036854775807 := by have := hst.1; unfold maxLen at this; exact this
  have hn1 : n1 ≤ 1048576 := Nat.le_trans (Nat.le_of_eq hr1p.1.symm) (hm.out.pens.2 _ (List.mem_of_getElem? hja))
  have hal := okPen_take hja
  simp only at hal
  obtain ⟨tN, hNm⟩ : ∃ u, u = nameB x0 := ⟨_, rfl⟩
  obtain ⟨tB, hPB⟩ : ∃ u, u = penB K1 := ⟨_, rfl⟩
  obtain ⟨ix, hix⟩ : ∃ u, u = penIdx (d.pens.take k) x0 := ⟨_, rfl⟩
  rw [← hNm, ← hPB, ← hix] at hal
  have hBa := Go.Joins.below_alloc1 wr (.cells #[.string x0, .slice A1 n1 c1] 87 (0, 0))
  have hYa := heap_alloc_new wr (.cells #[.string x0, .slice A1 n1 c1] 87 (0, 0))
  have hXa := hbox.out.alloc hxl (.cells #[.string x0, .slice A1 n1 c1] 87 (0, 0))
  have g0 : (wr.alloc (.cells #[.string x0, .slice A1 n1 c1] 87 (0, 0))).cell? ⟨wr.heap.size, 0, none⟩ = some (.string x0) := by rw [Go.Joins.cell_of_block hYa]; rfl
  have g1 : (wr.alloc (.cells #[.string x0, .slice A1 n1 c1] 87 (0, 0))).cell? ⟨wr.heap.size, 1, none⟩ = some (.slice A1 n1 c1) := by rw [Go.Joins.cell_of_block hYa]; rfl
  have g2 : (wr.alloc (.cells #[.string x0, .slice A1 n1 c1] 87 (0, 0))).cell? ⟨w.heap.size, 1, none⟩ = some (.slice (some ⟨b1, f1, none⟩) pn pc) := hXa.2.1
  have hYl : wr.heap.size < (wr.alloc (.cells #[.string x0, .slice A1 n1 c1] 87 (0, 0))).heap.size := by simp
  obtain ⟨W, hW⟩ : ∃ W, W = wr.alloc (.cells #[.string x0, .slice A1 n1 c1] 87 (0, 0)) := ⟨_, rfl⟩
  rw [← hW] at hBa hXa g0 g1 g2 hYl
  have hBW := hbel.trans (hBa.mono hsz)
  have hxlW : w.heap.size < W.heap.size := Nat.lt_of_lt_of_le hxl hBa.size
  have m0 : ∀ dr os, (Go.Sort.grow (redrawn W dr) os).cell? ⟨wr.heap.size, 0, none⟩ = some (.string x0) := cell_regrown g0
  have m1 : ∀ dr os, (Go.Sort.grow (redrawn W dr) os).cell? ⟨wr.heap.size, 1, none⟩ = some (.slice A1 n1 c1) := cell_regrown g1
  have m2 : ∀ dr os, (Go.Sort.grow (redrawn W dr) os).cell? ⟨w.heap.size, 1, none⟩ = some (.slice (some ⟨b1, f1, none⟩) pn pc) := cell_regrown g2
  have hcn := Lib.hid (fun dr os => calls_kept (fun w => implIsName_k x0 tN hNm w hsx) W dr os)
  have hcb := Lib.hid (fun dr os => Calls.regrown_of (isPen_any A1 n1 c1 lo hi K1 tB hPB (Go.Sort.grow (redrawn W dr) os) ((hr1p.frame (good_flat _) (Below.sameB hBa (Nat.le_trans hhi hsz))).frame (good_flat _) (Below.sameB (below_regrown W dr os) (Nat.le_trans hhi hBW.size))) (Nat.le_trans hhi (Nat.le_trans hBW.size (below_regrown W dr os).size)) (by omega)))
  have hcx := Lib.hid (fun dr os => Calls.regrown_of (findPen_any x0 (some ⟨b1, f1, none⟩) k pc lo hi (d.pens.take k) (Go.Sort.grow (redrawn W dr) os) (((hr1.out.frame good_pen (Below.sameB hBW hhi)).take hk).frame good_pen (Below.sameB (below_regrown W dr os) (Nat.le_trans hhi hBW.size))) (Nat.le_trans hhi (Nat.le_trans hBW.size (below_regrown W dr os).size)) (by omega)))
  rw [← hix] at hcx
  replace hal := Lib.hid hal
  replace hNm := Lib.hid hNm
  replace hix := Lib.hid hix
  replace hPB := Lib.hid hPB
  replace hXa := Lib.hid hXa
  clear hcs hst hsx hja hr1p hYa g0 g1 g2
  go_wp2_with fail
  rw [← hW]
  replace hW := Lib.hid hW
  clear q0 q1
  have hkc2 : (0 : Int) ≤ (k : Int) ∧ (k : Int) ≤ (pc : Int) := by omega
  have hkc3 : k ≤ pc := by omega
  cases tN with
  | false =>
    have hok : okPen d.pens k = false := by rw [hal.out]; rfl
    have htf : t = false := by rw [ht.out]; exact scene_no (.inr (.inl (lists_no1 hkl hok)))
    subst htf
    clear hok
    refine wp_region_quiet_below (by kernel_rfl) (by kernel_rfl) ?_
    repeat (go_big_quiet_step (first | (with_reducible exact hcn.out _ _) | (with_reducible exact hcb.out _ _) | (with_reducible exact hcx.out _ _)))
    refine wpQuiet_nil ?_
    intro _ hw'
    obtain ⟨⟨dq, osq⟩, hw''⟩ := hw'
    subst hw''
    have hb9 := below_regrown W dq osq
    generalize Go.Sort.grow (redrawn W dq) osq = W9 at hb9 ⊢
    have hB5 := hBW.trans (hb9.mono hBW.size)
    clear m0 m1 m2 hb9
    go_wp2_with fail
    go_ret
    exact ⟨rfl, hB5⟩
  | true =>
  cases tB with
  | false =>
    have hok : okPen d.pens k = false := by rw [hal.out]; rfl
    have htf : t = false := by rw [ht.out]; exact scene_no (.inr (.inl (lists_no1 hkl hok)))
    subst htf
    clear hok
    refine wp_region_quiet_below (by kernel_rfl) (by kernel_rfl) ?_
    repeat (go_big_quiet_step (first | (with_reducible exact hcn.out _ _) | (with_reducible exact hcb.out _ _) | (with_reducible exact hcx.out _ _)))
    refine wpQuiet_nil ?_
    intro _ hw'
    obtain ⟨⟨dq, osq⟩, hw''⟩ := hw'
    subst hw''
    have hb9 := below_regrown W dq osq
    generalize Go.Sort.grow (redrawn W dq) osq = W9 at hb9 ⊢
    have hB5 := hBW.trans (hb9.mono hBW.size)
    clear m0 m1 m2 hb9
    go_wp2_with fail
    go_ret
    exact ⟨rfl, hB5⟩
  | true =>
  by_cases hi0 : 0 ≤ ix
  · have hok : okPen d.pens k = false := by rw [hal.out, decide_eq_false (by omega : ¬ ix < 0)]; rfl
    have htf : t = false := by rw [ht.out]; exact scene_no (.inr (.inl (lists_no1 hkl hok)))
    subst htf
    clear hok
    refine wp_region_quiet_below (by kernel_rfl) (by kernel_rfl) ?_
    repeat (go_big_quiet_step (first | (with_reducible exact hcn.out _ _) | (with_reducible exact hcb.out _ _) | (with_reducible exact hcx.out _ _)))
    refine wpQuiet_nil ?_
    intro _ hw'
    obtain ⟨⟨dq, osq⟩, hw''⟩ := hw'
    subst hw''
    have hb9 := below_regrown W dq osq
    generalize Go.Sort.grow (redrawn W dq) osq = W9 at hb9 ⊢
    have hB5 := hBW.trans (hb9.mono hBW.size)
    clear m0 m1 m2 hb9
    go_wp2_with fail
    go_ret
    exact ⟨rfl, hB5⟩
  have hok : okPen d.pens k = true := by rw [hal.out, decide_eq_true (by omega : ix < 0)]; rfl
  replace hok := Lib.hid hok
  refine wp_region_quiet_below (by kernel_rfl) (by kernel_rfl) ?_
  repeat (go_big_quiet_step (first | (with_reducible exact hcn.out _ _) | (with_reducible exact hcb.out _ _) | (with_reducible exact hcx.out _ _)))
  refine wpQuiet_nil ?_
  intro _ hw'
  obtain ⟨⟨dq, osq⟩, hw''⟩ := hw'
  subst hw''
  have hb9 := below_regrown W dq osq
  generalize Go.Sort.grow (redrawn W dq) osq = W9 at hb9 ⊢
  have hX5 := hXa.out.below hb9 hxlW
  have hxl5 : w.heap.size < W9.heap.size := Nat.lt_of_lt_of_le hxlW hb9.size
  have hB5 := hBW.trans (hb9.mono hBW.size)
  clear m0 m1 m2 hb9
  go_wp2_with fail
  go_roundw
  case rel => exact ⟨k + 1, by go_num, by omega, all_next hall.out hok.out, hX5, hxl5, hB5⟩
  case measure => simp [intOf]; omega
end Go.Proofs.YtfkidklpjiiclaaGreat

/- The law FnExactValidScene: its walk. Conditions: as it states. -/
namespace Go.Proofs.YtfkidklpjiiclaaGreat
open Go.RowKit
set_option linter.unusedVariables false
set_option maxRecDepth 100000

theorem bC_new (w : World) (d : ScD) (h : ScH) (t : TypeId) : BoxC (w.alloc (.cells #[.slice h.rows.A h.rows.n h.rows.c, .slice h.pens.A h.pens.n h.pens.c, .slice h.paths.A h.paths.n h.paths.c, .int .i64 d.set.unit, .slice h.set.gl.A h.set.gl.n h.set.gl.c, .bool d.isOpen, .string d.now.name, .int .i64 d.now.code, .int .i64 d.now.adv, .slice h.now.out.A h.now.out.n h.now.out.c, .slice h.now.parts.A h.now.parts.n h.now.parts.c, .slice h.now.anchors.A h.now.anchors.n h.now.anchors.c, .string d.now.hints, .slice h.shape.A h.shape.n h.shape.c] t (0, 0))) w.heap.size d h := boxC_new (heap_alloc_new w _) rfl

set_option maxHeartbeats 8000000 in
theorem lawValidScene_walk (d : ScD) (h : ScH)  {w : World} (hr : ScRd w 0 w.heap.size d h) (hm : d.small maxLen) (hst : d.str)  :
    Calls Tryz.prog 3 #[scV d h] w fun e w' => e = .returned (.bool true) ∧ Below w.heap.size w w' := by
  obtain ⟨r0, hb⟩ : ∃ (r0 : Bool), r0 = sceneB d := ⟨_, rfl⟩
  replace hb := Lib.hid hb
  replace hr := Lib.hid hr
  replace hm := Lib.hid hm
  replace hst := Lib.hid hst
  have hs0 := Lib.hid (bC_new w d h 41)
  go_enter Tryz.func3, Tryz.ntmps3
  go_wp2_with fail
  refine (szScene_any d h 1048576 0 w.heap.size _ (hr.out.frame (Below.sameB (Go.Joins.below_alloc1 _ _) (Nat.le_refl _))) (Go.Joins.below_alloc1 _ _).size hm.out hst.out (by omega) (by omega)).mono ?_
  rintro e w1 ⟨rz, rfl, hrz, hb1⟩
  have hz1 := hb1.size
  simp at hz1
  have hB1 : Below w.heap.size w w1 := (Go.Joins.below_alloc1 _ _).trans (hb1.mono (by first | omega | (simp <;> omega)))
  have hs1 := Lib.hid (hs0.out.below hb1 (by first | omega | (simp <;> omega)))
  clear hs0 hb1
  rcases hrz with hn1 | ⟨hn1, hl1, hm1⟩
  · clear hs1
    go_wp2_with fail
    go_ret
    exact ⟨rfl, hB1⟩
  replace hm1 := Lib.hid hm1
  have hya : w.heap.size < w1.heap.size := by omega
  clear hl1
  obtain ⟨s0, s1, s2, s3, s4, s5, s6, s7, s8, s9, s10, s11, s12, s13⟩ := hs1.out
  go_wp2_with fail
  refine (toScene_rc d h 0 w.heap.size _ (hr.out.frame (Below.sameB hB1 (Nat.le_refl _))) hB1.size hm1.out).mono ?_
  rintro e w2 ⟨k2, rfl, rd2, hb2, cp2⟩
  have hB2 := hB1.trans (hb2.mono hB1.size)
  have hyb : w.heap.size < w2.heap.size := Nat.lt_of_lt_of_le hya hb2.size
  have hs2 := Lib.hid (hs1.out.below hb2 (by first | omega | (simp <;> omega)))
  clear s0 s1 s2 s3 s4 s5 s6 s7 s8 s9 s10 s11 s12 s13 hs1 hb2
  replace rd2 := Lib.hid rd2
  go_wp2_with fail
  refine (specValidScene_any d k2  r0 hb.out _ _ _ (ScRk.rd rd2.out) (Nat.le_refl _) (hm1.out.mono (by omega)) hst.out).mono ?_
  rintro e w5 ⟨rfl, hb5⟩
  have hB5 := hB2.trans (hb5.mono hB2.size)
  have hyc : w.heap.size < w5.heap.size := Nat.lt_of_lt_of_le hyb hb5.size
  have hs5 := Lib.hid (hs2.out.below hb5 (by first | omega | (simp <;> omega)))
  clear hs2 hb5 rd2
  obtain ⟨s0, s1, s2, s3, s4, s5, s6, s7, s8, s9, s10, s11, s12, s13⟩ := hs5.out
  go_wp2_with fail
  refine (toScene_rc d h 0 w.heap.size _ (hr.out.frame (Below.sameB hB5 (Nat.le_refl _))) hB5.size hm1.out).mono ?_
  rintro e w6 ⟨k6, rfl, rd6, hb6, cp6⟩
  have hB6 := hB5.trans (hb6.mono hB5.size)
  have hyd : w.heap.size < w6.heap.size := Nat.lt_of_lt_of_le hyc hb6.size
  have hs6 := Lib.hid (hs5.out.below hb6 (by first | omega | (simp <;> omega)))
  clear s0 s1 s2 s3 s4 s5 s6 s7 s8 s9 s10 s11 s12 s13 hs5 hb6
  replace rd6 := Lib.hid rd6
  go_wp2_with fail
  refine (implValidScene_any d k6  r0 hb.out _ _ _ (rd6.out.frame (SameB.alloc (SameB.refl _ _ _) (Nat.le_refl _) _)) (by simp) (hm1.out.mono (by omega)) hst.out cp6).mono ?_
  rintro e w8 ⟨rfl, hb8⟩
  have g68 : w6.heap.size < w8.heap.size := by have := hb8.size; simp at this; omega
  have hB8 : Below w.heap.size w w8 := (hB6.alloc hB6.size _).trans (hb8.mono (by simp; exact Nat.le_succ_of_le hB6.size))
  have hs8 := Lib.hid ((hs6.out.alloc (by omega) _).below hb8 (by first | omega | (simp <;> omega)))
  have hx8 := Lib.hid (boxC_new (d := d) (h := k6) ((hb8.block _ (by simp)).trans (heap_alloc_new w6 _)) rfl)
  replace rd6 := Lib.hid (rd6.out.frame ((SameB.alloc (SameB.refl _ _ _) (Nat.le_refl _) _).trans (Below.sameB hb8 (by simp))))
  have hye : w.heap.size < w8.heap.size := by omega
  clear hs6 hb8
  go_wp2_with fail
  go_region_held3 (fun w' => w'.cell? ⟨w6.heap.size, 0, none⟩ = some (.slice k6.rows.A k6.rows.n k6.rows.c) ∧ w'.cell? ⟨w6.heap.size, 1, none⟩ = some (.slice k6.pens.A k6.pens.n k6.pens.c) ∧ w'.cell? ⟨w6.heap.size, 2, none⟩ = some (.slice k6.paths.A k6.paths.n k6.paths.c) ∧ w'.cell? ⟨w6.heap.size, 3, none⟩ = some (.int .i64 d.set.unit) ∧ w'.cell? ⟨w6.heap.size, 4, none⟩ = some (.slice k6.set.gl.A k6.set.gl.n k6.set.gl.c) ∧ w'.cell? ⟨w6.heap.size, 5, none⟩ = some (.bool d.isOpen) ∧ w'.cell? ⟨w6.heap.size, 6, none⟩ = some (.string d.now.name) ∧ w'.cell? ⟨w6.heap.size, 7, none⟩ = some (.int .i64 d.now.code) ∧ w'.cell? ⟨w6.heap.size, 8, none⟩ = some (.int .i64 d.now.adv) ∧ w'.cell? ⟨w6.heap.size, 9, none⟩ = some (.slice k6.now.out.A k6.now.out.n k6.now.out.c) ∧ w'.cell? ⟨w6.heap.size, 10, none⟩ = some (.slice k6.now.parts.A k6.now.parts.n k6.now.parts.c) ∧ w'.cell? ⟨w6.heap.size, 11, none⟩ = some (.slice k6.now.anchors.A k6.now.anchors.n k6.now.anchors.c) ∧ w'.cell? ⟨w6.heap.size, 12, none⟩ = some (.string d.now.hints) ∧ w'.cell? ⟨w6.heap.size, 13, none⟩ = some (.slice k6.shape.A k6.shape.n k6.shape.c) ∧ w'.cell? ⟨w.heap.size, 0, none⟩ = some (.slice h.rows.A h.rows.n h.rows.c) ∧ w'.cell? ⟨w.heap.size, 1, none⟩ = some (.slice h.pens.A h.pens.n h.pens.c) ∧ w'.cell? ⟨w.heap.size, 2, none⟩ = some (.slice h.paths.A h.paths.n h.paths.c) ∧ w'.cell? ⟨w.heap.size, 3, none⟩ = some (.int .i64 d.set.unit) ∧ w'.cell? ⟨w.heap.size, 4, none⟩ = some (.slice h.set.gl.A h.set.gl.n h.set.gl.c) ∧ w'.cell? ⟨w.heap.size, 5, none⟩ = some (.bool d.isOpen) ∧ w'.cell? ⟨w.heap.size, 6, none⟩ = some (.string d.now.name) ∧ w'.cell? ⟨w.heap.size, 7, none⟩ = some (.int .i64 d.now.code) ∧ w'.cell? ⟨w.heap.size, 8, none⟩ = some (.int .i64 d.now.adv) ∧ w'.cell? ⟨w.heap.size, 9, none⟩ = some (.slice h.now.out.A h.now.out.n h.now.out.c) ∧ w'.cell? ⟨w.heap.size, 10, none⟩ = some (.slice h.now.parts.A h.now.parts.n h.now.parts.c) ∧ w'.cell? ⟨w.heap.size, 11, none⟩ = some (.slice h.now.anchors.A h.now.anchors.n h.now.anchors.c) ∧ w'.cell? ⟨w.heap.size, 12, none⟩ = some (.string d.now.hints) ∧ w'.cell? ⟨w.heap.size, 13, none⟩ = some (.slice h.shape.A h.shape.n h.shape.c)) (first | exact (hx8.out.two hs8.out) | exact (hx9.out.two hs9.out) | exact (hx10.out.two hs10.out))
    (first | (go_at_call 7; (with_reducible refine (toScene_rc d h 0 w.heap.size _ ?_ ?_ hm1.out).mono ?_); exact (hr.out.frame (Below.sameB hB8.drew (Nat.le_refl _))); exact hB8.size; rintro e w9 ⟨k9, rfl, rd9, hb9, cp9⟩; have hB9 := hB8.drew.trans (hb9.mono hB8.size); have hz9 : w8.heap.size ≤ w9.heap.size := hb9.size; have hs9 := Lib.hid (hs8.out.drew.below hb9 (by first | omega | (simp <;> omega))); have hx9 := Lib.hid (hx8.out.drew.below hb9 (by first | omega | (simp <;> omega))); replace rd6 := Lib.hid (rd6.out.frame ((SameB.refl _ _ w8).drew.trans (Below.sameB hb9 (by show _ ≤ w8.heap.size; omega)))); replace rd9 := Lib.hid rd9; clear hb9) | (go_at_call 9; (with_reducible refine (eqScene_any d k6 k9 _ _ _ _ _ (ScRk.rd rd6.out) (ScRk.rd rd9.out) ?_ ?_ ?_).mono ?_); (omega); (exact Nat.le_refl _); exact hm1.out.mono (by omega); rintro e w10 ⟨rfl, hb10⟩; have hB10 := hB9.trans (hb10.mono hB9.size); have hz10 : w9.heap.size ≤ w10.heap.size := hb10.size; have hs10 := Lib.hid (hs9.out.below hb10 (by first | omega | (simp <;> omega))); have hx10 := Lib.hid (hx9.out.below hb10 (by first | omega | (simp <;> omega))); clear hb10))
  go_wp2_with fail
  go_ret
  exact ⟨rfl, hB10⟩
end Go.Proofs.YtfkidklpjiiclaaGreat

