/- Whether a set of glyphs is valid: the reference's side. Conditions: as each states. -/
import Derived.BigQuiet
import Derived.Lib.QuietBelow
import Derived.Deep.RegionHeld3
import Derived.Test.YtgnjohkfgllhmaaOrdS
namespace Go.Proofs.Ytgnjohkfgllhmaa
open Go.RowKit
set_option linter.unusedVariables false
set_option maxRecDepth 100000

theorem l17Clash_flat (p1 o1 p2 o2 : Nat) (x0 y0 : ByteArray) (x1 y1 : Int) (b : Bool) (hb : b = (decide (x0 = y0) || (decide (0 ≤ x1) && decide (x1 = y1)))) (w : World)
    (q0 : w.cell? ⟨p1, o1, none⟩ = some (.string x0)) (q1 : w.cell? ⟨p1, o1 + 1, none⟩ = some (.int .i64 x1)) (r0 : w.cell? ⟨p2, o2, none⟩ = some (.string y0)) (r1 : w.cell? ⟨p2, o2 + 1, none⟩ = some (.int .i64 y1)) :
    Calls Try.prog 62 #[.pointer (some ⟨p1, o1, none⟩), .pointer (some ⟨p2, o2, none⟩)] w fun e w' => e = .returned (.bool b) ∧ Below w.heap.size w w' := by
  by_cases e0 : x0 = y0
  · obtain rfl : b = true := by rw [hb]; simp [e0]
    clear hb
    subst e0
    go_enter Try.func62, Try.ntmps62
    go_wp2_with fail
    go_quiet (fail)
    go_wp2_with fail
    go_ret
    exact ⟨rfl, below_drewN (Below.refl _ _) _⟩
  have u0 : (x0.toList == y0.toList) = false := bytes_neq e0
  by_cases e1 : 0 ≤ x1
  rotate_left
  · obtain rfl : b = false := by rw [hb]; simp [e0, e1]
    have u1 : decide ((0 : Int) ≤ x1) = false := by simpa using e1
    clear hb e0 e1
    go_enter Try.func62, Try.ntmps62
    go_wp2_with fail
    go_quiet (fail)
    go_wp2_with fail
    go_ret
    exact ⟨rfl, below_drewN (Below.refl _ _) _⟩
  have u1 : decide ((0 : Int) ≤ x1) = true := by simpa using e1
  by_cases e2 : x1 = y1
  · obtain rfl : b = true := by rw [hb]; simp [e1, ← e2]
    subst e2
    clear hb e0 e1
    go_enter Try.func62, Try.ntmps62
    go_wp2_with fail
    go_quiet (fail)
    go_wp2_with fail
    go_ret
    exact ⟨rfl, below_drewN (Below.refl _ _) _⟩
  · obtain rfl : b = false := by rw [hb]; simp [e0, e2]
    have u2 : (x1 == y1) = false := by simp [e2]
    clear hb e0 e1 e2
    go_enter Try.func62, Try.ntmps62
    go_wp2_with fail
    go_quiet (fail)
    go_wp2_with fail
    go_ret
    exact ⟨rfl, below_drewN (Below.refl _ _) _⟩
theorem l17Clash_any (p1 o1 p2 o2 : Nat) (d d' : Gl) (h h' : GlH) (b : Bool) (hb : b = clash d d') (w : World)
    (c1 : ∀ i u, (glC d h)[i]? = some u → w.cell? ⟨p1, o1 + i, none⟩ = some u) (c2 : ∀ i u, (glC d' h')[i]? = some u → w.cell? ⟨p2, o2 + i, none⟩ = some u) :
    Calls Try.prog 62 #[.pointer (some ⟨p1, o1, none⟩), .pointer (some ⟨p2, o2, none⟩)] w fun e w' => e = .returned (.bool b) ∧ Below w.heap.size w w' :=
  l17Clash_flat p1 o1 p2 o2 d.name d'.name d.code d'.code b hb w (c1 0 _ rfl) (c1 1 _ rfl) (c2 0 _ rfl) (c2 1 _ rfl)

theorem glOk_all {L : List Gl} {n : Nat} (hn : L.length = n) (h : (List.range n).all (glAt L) = true) : ∀ g ∈ L, glyphOk g = true := fun g hg => by
  obtain ⟨j, hj⟩ := List.getElem?_of_mem hg
  have := range_at h (by rw [← hn]; exact (List.getElem?_eq_some_iff.1 hj).1)
  rw [glAt_eq hj] at this
  simp at this
  exact this.1

set_option maxHeartbeats 8000000 in
theorem l17Ok_any (p o : Nat) (u : Int) (A : Option Addr) (n c lo hi : Nat) (L : List Gl) (v : Bool) (hv : v = setOk ⟨u, L⟩) (w : World) (hp0 : p < w.heap.size) (k0 : w.cell? ⟨p, o, none⟩ = some (.int .i64 u)) (k1 : w.cell? ⟨p, o + 1, none⟩ = some (.slice A n c)) (hr : GsRd w lo hi A n L) (hhi : hi ≤ w.heap.size) (hn : n ≤ 1000000000) (hm : ∀ g ∈ L, g.small 1000000000) (hs : ∀ g ∈ L, g.str) :
    Calls Try.prog 37 #[.pointer (some ⟨p, o, none⟩)] w fun e w' => e = .returned (.bool v) ∧ Below w.heap.size w w' := by
  have hl := Lib.hid hr.1
  have e1 := Lib.hid (fun (h : inB u 16 16384 = false) => hv.trans (set_f1 (s := ⟨u, L⟩) h))
  have e2 := Lib.hid (fun (h : 40 < n) => hv.trans (set_f2 (s := ⟨u, L⟩) (by show 40 < L.length; rw [hl.out]; exact h)))
  have e3 := Lib.hid (fun (k : Nat) (h : k < n) (h1 : glAt L k = false) => hv.trans (set_f3 (s := ⟨u, L⟩) (by show k < L.length; rw [hl.out]; exact h) h1))
  have e4 := Lib.hid (fun (h1 : inB u 16 16384 = true) (h2 : n ≤ 40) (h3 : (List.range n).all (glAt L) = true) => show v = decide ((order (tgts L)).length = n) from by
    have := hv.trans (set_eq (s := ⟨u, L⟩) h1 (by show L.length ≤ 40; rw [hl.out]; exact h2) (by show (List.range L.length).all (glAt L) = true; rw [hl.out]; exact h3))
    simpa only [hl.out] using this)
  replace hv := Lib.hid hv
  replace hr := Lib.hid hr
  replace hm := Lib.hid hm
  replace hs := Lib.hid hs
  cases t0 : inB u 16 16384
  · have hvf := e1.out t0
    subst hvf
    go_enter Try.func37, Try.ntmps37
    go_wp2_with (go_at_call 83; refine (l00In_any _ _ _ _).mono ?_; rintro e w' ⟨rfl, rfl⟩)
    go_ret
    exact ⟨rfl, Below.refl _ _⟩
  by_cases h40 : n ≤ 40
  rotate_left
  · have hvf := e2.out (by omega)
    subst hvf
    go_enter Try.func37, Try.ntmps37
    go_wp2_with (go_at_call 83; refine (l00In_any _ _ _ _).mono ?_; rintro e w' ⟨rfl, rfl⟩)
    go_ret
    exact ⟨rfl, Below.refl _ _⟩
  replace e4 := Lib.hid (e4.out t0 h40)
  clear e1 e2
  go_enter Try.func37, Try.ntmps37
  go_wp2_with (go_at_call 83; refine (l00In_any _ _ _ _).mono ?_; rintro e w' ⟨rfl, rfl⟩)
  clear t0 k0
  go_loopw [3] (fun i wr => ∃ k : Nat, i = .int .i64 k ∧ k ≤ n ∧ (List.range k).all (glAt L) = true ∧ Below w.heap.size w wr) (fun i wr => n - (intOf i).toNat)
  case atStart => exact ⟨0, rfl, Nat.zero_le _, rfl, Below.refl _ _⟩
  case round =>
    obtain ⟨k, rfl, hk, hall, hbel⟩ := hrel
    replace hall := Lib.hid hall
    have hsz := hbel.size
    have hpr : p < wr.heap.size := by omega
    have kw := (hbel.cell (p := ⟨p, o + 1, none⟩) hp0).trans k1
    by_cases hlt : k < n
    · obtain ⟨b1, f1, d, hh, rfl, hb0, hb1, hja, hcs, hrg⟩ := gs_at (hr.out.frame good_glyph (Below.sameB hbel hhi)) hlt
      have hb1w : b1 < wr.heap.size := by omega
      obtain ⟨t, ht⟩ : ∃ t, t = glyphOk d := ⟨_, rfl⟩
      have hgm := hm.out d (List.mem_of_getElem? hja)
      have hgs := hs.out d (List.mem_of_getElem? hja)
      have hc := Lib.hid (l17Glyph_any b1 (f1 + k * 7) d hh t ht lo hi wr hb1w hcs hrg (by omega) hgm hgs)
      have hno := Lib.hid (fun (h : glAt L k = false) => e3.out k hlt h)
      have hst := Lib.hid (fun (h : glAt L k = true) => range_step hall.out h)
      have hat := Lib.hid (glAt_eq hja)
      have hki : (0 : Int) ≤ (k : Int) ∧ (k : Int) < (n : Int) := by omega
      replace ht := Lib.hid ht
      replace hcs := Lib.hid hcs
      replace hja := Lib.hid hja
      replace hrg := Lib.hid hrg
      clear hgm hgs hb0 hb1 hall
      go_wp2_with fail
      refine hc.out.mono ?_
      rintro e w1 ⟨rfl, hb1⟩
      have hbel1 := hbel.trans (hb1.mono hsz)
      have kw1 := (hb1.cell (p := ⟨p, o + 1, none⟩) hpr).trans kw
      have hs1 := hb1.size
      have hpr1 : p < w1.heap.size := by omega
      have hcs1 := Lib.hid (fun i u hu => (hb1.cell (p := ⟨b1, f1 + k * 7 + i, none⟩) hb1w).trans (hcs.out i u hu))
      clear hbel kw hc hcs
      cases t with
      | false =>
        have hvf := hno.out (by rw [hat.out, ht.out.symm]; rfl)
        subst hvf
        go_wp2_with fail
        go_ret
        exact ⟨rfl, hbel1⟩
      | true =>
        have hat' := Lib.hid (show glAt L k = glFree (L.take k) d by rw [hat.out, ht.out.symm]; rfl)
        clear hat
        go_wp2_with fail
        obtain ⟨wo, rfl⟩ : ∃ wo : World, wo = wr := ⟨_, rfl⟩
        go_loopw [4] (fun i wq => ∃ j : Nat, i = .int .i64 j ∧ j ≤ k ∧ glFree (L.take j) d = true ∧ Below w1.heap.size w1 wq) (fun i wq => k - (intOf i).toNat)
        case atStart => exact ⟨0, rfl, Nat.zero_le _, rfl, Below.refl _ _⟩
        case round =>
          obtain ⟨j, rfl, hj, hfr, hbq⟩ := hrel
          replace hfr := Lib.hid hfr
          have hsq := hbq.size
          have hbel2 := hbel1.trans (hbq.mono hbel1.size)
          have kq := (hbq.cell (p := ⟨p, o + 1, none⟩) hpr1).trans kw1
          have hpq : p < wr.heap.size := by omega
          have hbwq : b1 < wr.heap.size := by omega
          by_cases hjl : j < k
          · obtain ⟨b2, f2, d2, hh2, hA, _, _, hjb, hcs2, _⟩ := gs_at (hr.out.frame good_glyph (Below.sameB hbel2 hhi)) (j := j) (by omega)
            injection hA with hA
            injection hA with hA1 hA2
            subst hA1 hA2
            have hcq := fun i u hu => (hbq.cell (p := ⟨b1, f1 + k * 7 + i, none⟩) (by show b1 < w1.heap.size; omega)).trans (hcs1.out i u hu)
            obtain ⟨t2, ht2⟩ : ∃ t, t = clash d2 d := ⟨_, rfl⟩
            have hc2 := Lib.hid (fun dr os => Calls.regrown_of (l17Clash_any b1 (f1 + j * 7) b1 (f1 + k * 7) d2 d hh2 hh t2 ht2 (Go.Sort.grow (redrawn wr dr) os) (fun i u hu => cell_regrown (hcs2 i u hu) dr os) (fun i u hu => cell_regrown (hcq i u hu) dr os)))
            have hji : (0 : Int) ≤ (j : Int) ∧ (j : Int) < (n : Int) := by omega
            have kg : ∀ dr os, (Go.Sort.grow (redrawn wr dr) os).cell? ⟨p, o + 1, none⟩ = some (.slice (some ⟨b1, f1, none⟩) n c) := cell_regrown kq
            have hn2 := Lib.hid (fun (h : clash d2 d = true) => glFree_no (a := d) hjl hjb h)
            have hs2 := Lib.hid (fun (h : clash d2 d = false) => glFree_step hfr.out hjb h)
            replace ht2 := Lib.hid ht2
            clear hcs2 hcq hjb kq
            go_wp2_with fail
            refine wp_region_quiet_below (by kernel_rfl) (by kernel_rfl) ?_
            repeat (go_big_quiet_step (exact hc2.out _ _))
            refine wpQuiet_nil ?_
            intro _ hw'
            obtain ⟨⟨dq, osq⟩, hw''⟩ := hw'
            subst hw''
            have hb3 := hbq.trans ((below_regrown wr dq osq).mono hsq)
            generalize Go.Sort.grow (redrawn wr dq) osq = w3 at hb3 ⊢
            clear kg
            cases t2 with
            | true =>
              have hvf := hno.out (by rw [hat'.out]; exact hn2.out ht2.out.symm)
              subst hvf
              go_wp2_with fail
              go_ret
              exact ⟨rfl, hbel1.trans (hb3.mono hbel1.size)⟩
            | false =>
              go_wp2_with fail
              go_roundw
              case rel => exact ⟨j + 1, by go_num, by omega, hs2.out ht2.out.symm, hb3⟩
              case measure => simp [intOf]; omega
          · have hjk : j = k := by omega
            have hst' := Lib.hid (hst.out (by rw [hat'.out, ← hjk]; exact hfr.out))
            replace hjk := Lib.hid hjk
            go_wp2_with fail
            go_roundw
            case rel => exact ⟨k + 1, by go_num, by omega, hst'.out, hbel2⟩
            case measure => simp [intOf]; omega
    · have hkn : k = n := by omega
      have hall' := Lib.hid (show (List.range n).all (glAt L) = true by rw [← hkn]; exact hall.out)
      have hvt := Lib.hid (e4.out hall'.out)
      have hps := Lib.hid (show ∀ g ∈ L, g.parts.length ≤ 6 from fun g hg => (glyph_is (glOk_all hl.out hall'.out g hg)).2.1)
      replace hkn := Lib.hid hkn
      obtain ⟨m, hmo⟩ : ∃ m, m = (order (tgts L)).length := ⟨_, rfl⟩
      have hco := Lib.hid (fun (W : World) (hB : Below w.heap.size w W) => l17Order_any p o A n c lo hi L W (Nat.lt_of_lt_of_le hp0 hB.size) ((hB.cell (p := ⟨p, o + 1, none⟩) hp0).trans k1) (hr.out.frame good_glyph (Below.sameB hB hhi)) (Nat.le_trans hhi hB.size) h40 hps.out)
      rw [← hmo] at hco
      rw [← hmo] at hvt
      replace hmo := Lib.hid hmo
      by_cases em : m = n
      all_goals
        have gm := Lib.hid (show ((m : Int) == (n : Int)) = decide (m = n) from by rw [Bool.eq_iff_iff]; simp; omega)
        have hvv : v = _ := hvt.out.trans (by first | exact decide_eq_true em | exact decide_eq_false em)
        replace gm := Lib.hid (gm.out.trans (by first | exact decide_eq_true em | exact decide_eq_false em))
        subst hvv
        replace em := Lib.hid em
        go_wp2_with fail
        go_region_held3 (fun w' => w'.cell? ⟨p, o + 1, none⟩ = some (.slice A n c)) (first | exact kw | exact kw2) (first | (go_at_call 84; (with_reducible refine (hco.out _ ?_).mono ?_); exact hbel.drew; rintro e w2 ⟨A2, c2, rfl, _, hb2⟩; have hB2 := hbel.drew.trans (hb2.mono hsz); have kw2 : w2.cell? ⟨p, o + 1, none⟩ = some (.slice A n c) := (hb2.cell (p := ⟨p, o + 1, none⟩) hpr).trans kw; clear hb2))
        go_wp2_with fail
        go_ret
        first | exact ⟨rfl, hB2⟩ | exact ⟨ret_bool gm.out, hB2⟩
theorem specValidGS_any (d : GSet) (h : GSetH) (v : Bool) (hv : v = setOk d) (lo hi : Nat) (w : World) (hr : GSetRd w lo hi d h) (hhi : hi ≤ w.heap.size) (hm : d.small 1000000000) (hs : ∀ g ∈ d.gl, g.str) :
    Calls Try.prog 12 #[gsV d h] w fun e w' => e = .returned (.bool v) ∧ Below w.heap.size w w' := by
  have hB0 := fun o : Obj => Go.Joins.below_alloc1 w o
  have hc := Lib.hid (l17Ok_any w.heap.size 0 d.unit h.gl.A h.gl.n h.gl.c lo hi d.gl v hv (w.alloc (.cells #[.int .i64 d.unit, .slice h.gl.A h.gl.n h.gl.c] 26 (0, 0))) (by simp) (by rw [Go.Joins.cell_of_block (heap_alloc_new w _)]; rfl) (by rw [Go.Joins.cell_of_block (heap_alloc_new w _)]; rfl) (hr.frame good_glyph (Below.sameB (hB0 _) hhi)) (Nat.le_trans hhi (hB0 _).size) (hm.gl hr.1).1 hm.g hs)
  replace hv := Lib.hid hv
  clear hr hm hs
  go_enter Try.func12, Try.ntmps12
  go_wp2_with fail
  refine hc.out.mono ?_
  rintro e w1 ⟨rfl, hb1⟩
  go_wp2_with fail
  go_ret
  exact ⟨rfl, (hB0 _).trans (hb1.mono (by simp))⟩
end Go.Proofs.Ytgnjohkfgllhmaa
