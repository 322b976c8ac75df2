/- Whether a glyph is valid: the reference's side. Conditions: as it states. -/
import Derived.BigQuiet
import Derived.Lib.QuietBelow
import Derived.Test.YtfkidklpjiiclaaGreatTe27
namespace Go.Proofs.YtfkidklpjiiclaaGreat
open Go.RowKit
set_option linter.unusedVariables false
set_option maxRecDepth 100000

theorem glyph_end {g : Gl} (h1 : nameB g.name = true) (h2 : inB g.code (-1) 65535 = true) (h3 : inB g.adv 0 262144 = true) (h4 : outOk g.out = true) (h5 : g.parts.length ≤ 6) (h6 : g.anchors.length ≤ 6) (h7 : g.hints.size ≤ 400)
    (h8 : (g.parts.take g.parts.length).all partOk = true) (h9 : (List.range g.anchors.length).all (anchAt g.anchors) = true) : glyphOk g = (decide (g.parts.length = 0) || decide (g.out.length = 0)) := by
  rw [List.take_length] at h8
  have e9 : anchsOk g.anchors = true := h9
  simp only [glyphOk, h1, h2, h3, h4, h5, h6, h7, h8, e9, decide_true, Bool.and_self, Bool.true_and]

theorem l17Glyph_n0 (p o : Nat) (x0 : ByteArray) (x1 x2 : Int) (x3 : List (List Knot)) (x4 : List Part) (x5 : List Anch) (x6 : ByteArray) (A3 A4 A5 : Option Addr) (n3 c3 n4 c4 n5 c5 lo hi : Nat) (w : World) (hp0 : p < w.heap.size)
    (k0 : w.cell? ⟨p, o, none⟩ = some (.string x0)) (k1 : w.cell? ⟨p, o + 1, none⟩ = some (.int .i64 x1)) (k2 : w.cell? ⟨p, o + 2, none⟩ = some (.int .i64 x2)) (k3 : w.cell? ⟨p, o + 3, none⟩ = some (.slice A3 n3 c3)) (k4 : w.cell? ⟨p, o + 4, none⟩ = some (.slice A4 n4 c4)) (k5 : w.cell? ⟨p, o + 5, none⟩ = some (.slice A5 n5 c5)) (k6 : w.cell? ⟨p, o + 6, none⟩ = some (.string x6))
    (ho : OutRd w lo hi A3 n3 x3) (hp : RdS 3 (FlatR partC) w lo hi A4 n4 x4) (ha : RdS 3 (FlatR anchC) w lo hi A5 n5 x5) (hhi : hi ≤ w.heap.size) (hm : Gl.small ⟨x0, x1, x2, x3, x4, x5, x6⟩ 1000000000) (hs0 : x0.size ≤ 9223372036854775807) (hs6 : x6.size ≤ 9223372036854775807)  (t0 : nameB x0 = false) :
    Calls Tryz.prog 55 #[.pointer (some ⟨p, o, none⟩)] w fun e w' => e = .returned (.bool false) ∧ Below w.heap.size w w' := by
  have htn := t0.symm
  have cN := Lib.hid (fun W => specIsName_any x0 false htn W hs0)
  replace htn := Lib.hid htn
  replace t0 := Lib.hid t0
  clear ho hp ha hm
  go_enter Tryz.func55, Tryz.ntmps55
  go_wp2_with (first | (go_at_call 99; refine (cN.out _).mono ?_; rintro e w' ⟨rfl, rfl⟩) | (go_at_call 105; refine (l00In_any _ _ _ _).mono ?_; rintro e w' ⟨rfl, rfl⟩))
  go_ret
  exact ⟨rfl, Below.refl _ _⟩

theorem l17Glyph_n1 (p o : Nat) (x0 : ByteArray) (x1 x2 : Int) (x3 : List (List Knot)) (x4 : List Part) (x5 : List Anch) (x6 : ByteArray) (A3 A4 A5 : Option Addr) (n3 c3 n4 c4 n5 c5 lo hi : Nat) (w : World) (hp0 : p < w.heap.size)
    (k0 : w.cell? ⟨p, o, none⟩ = some (.string x0)) (k1 : w.cell? ⟨p, o + 1, none⟩ = some (.int .i64 x1)) (k2 : w.cell? ⟨p, o + 2, none⟩ = some (.int .i64 x2)) (k3 : w.cell? ⟨p, o + 3, none⟩ = some (.slice A3 n3 c3)) (k4 : w.cell? ⟨p, o + 4, none⟩ = some (.slice A4 n4 c4)) (k5 : w.cell? ⟨p, o + 5, none⟩ = some (.slice A5 n5 c5)) (k6 : w.cell? ⟨p, o + 6, none⟩ = some (.string x6))
    (ho : OutRd w lo hi A3 n3 x3) (hp : RdS 3 (FlatR partC) w lo hi A4 n4 x4) (ha : RdS 3 (FlatR anchC) w lo hi A5 n5 x5) (hhi : hi ≤ w.heap.size) (hm : Gl.small ⟨x0, x1, x2, x3, x4, x5, x6⟩ 1000000000) (hs0 : x0.size ≤ 9223372036854775807) (hs6 : x6.size ≤ 9223372036854775807) (t0 : nameB x0 = true) (t1 : inB x1 (-1) 65535 = false) :
    Calls Tryz.prog 55 #[.pointer (some ⟨p, o, none⟩)] w fun e w' => e = .returned (.bool false) ∧ Below w.heap.size w w' := by
  have htn := t0.symm
  have cN := Lib.hid (fun W => specIsName_any x0 true htn W hs0)
  replace htn := Lib.hid htn
  replace t0 := Lib.hid t0
  clear ho hp ha hm
  go_enter Tryz.func55, Tryz.ntmps55
  go_wp2_with (first | (go_at_call 99; refine (cN.out _).mono ?_; rintro e w' ⟨rfl, rfl⟩) | (go_at_call 105; refine (l00In_any _ _ _ _).mono ?_; rintro e w' ⟨rfl, rfl⟩))
  go_ret
  exact ⟨rfl, Below.refl _ _⟩

theorem l17Glyph_n2 (p o : Nat) (x0 : ByteArray) (x1 x2 : Int) (x3 : List (List Knot)) (x4 : List Part) (x5 : List Anch) (x6 : ByteArray) (A3 A4 A5 : Option Addr) (n3 c3 n4 c4 n5 c5 lo hi : Nat) (w : World) (hp0 : p < w.heap.size)
    (k0 : w.cell? ⟨p, o, none⟩ = some (.string x0)) (k1 : w.cell? ⟨p, o + 1, none⟩ = some (.int .i64 x1)) (k2 : w.cell? ⟨p, o + 2, none⟩ = some (.int .i64 x2)) (k3 : w.cell? ⟨p, o + 3, none⟩ = some (.slice A3 n3 c3)) (k4 : w.cell? ⟨p, o + 4, none⟩ = some (.slice A4 n4 c4)) (k5 : w.cell? ⟨p, o + 5, none⟩ = some (.slice A5 n5 c5)) (k6 : w.cell? ⟨p, o + 6, none⟩ = some (.string x6))
    (ho : OutRd w lo hi A3 n3 x3) (hp : RdS 3 (FlatR partC) w lo hi A4 n4 x4) (ha : RdS 3 (FlatR anchC) w lo hi A5 n5 x5) (hhi : hi ≤ w.heap.size) (hm : Gl.small ⟨x0, x1, x2, x3, x4, x5, x6⟩ 1000000000) (hs0 : x0.size ≤ 9223372036854775807) (hs6 : x6.size ≤ 9223372036854775807) (t0 : nameB x0 = true) (t1 : inB x1 (-1) 65535 = true) (t2 : inB x2 0 262144 = false) :
    Calls Tryz.prog 55 #[.pointer (some ⟨p, o, none⟩)] w fun e w' => e = .returned (.bool false) ∧ Below w.heap.size w w' := by
  have htn := t0.symm
  have cN := Lib.hid (fun W => specIsName_any x0 true htn W hs0)
  replace htn := Lib.hid htn
  replace t0 := Lib.hid t0
  clear ho hp ha hm
  go_enter Tryz.func55, Tryz.ntmps55
  go_wp2_with (first | (go_at_call 99; refine (cN.out _).mono ?_; rintro e w' ⟨rfl, rfl⟩) | (go_at_call 105; refine (l00In_any _ _ _ _).mono ?_; rintro e w' ⟨rfl, rfl⟩))
  go_ret
  exact ⟨rfl, Below.refl _ _⟩

theorem l17Glyph_n3 (p o : Nat) (x0 : ByteArray) (x1 x2 : Int) (x3 : List (List Knot)) (x4 : List Part) (x5 : List Anch) (x6 : ByteArray) (A3 A4 A5 : Option Addr) (n3 c3 n4 c4 n5 c5 lo hi : Nat) (w : World) (hp0 : p < w.heap.size)
    (k0 : w.cell? ⟨p, o, none⟩ = some (.string x0)) (k1 : w.cell? ⟨p, o + 1, none⟩ = some (.int .i64 x1)) (k2 : w.cell? ⟨p, o + 2, none⟩ = some (.int .i64 x2)) (k3 : w.cell? ⟨p, o + 3, none⟩ = some (.slice A3 n3 c3)) (k4 : w.cell? ⟨p, o + 4, none⟩ = some (.slice A4 n4 c4)) (k5 : w.cell? ⟨p, o + 5, none⟩ = some (.slice A5 n5 c5)) (k6 : w.cell? ⟨p, o + 6, none⟩ = some (.string x6))
    (ho : OutRd w lo hi A3 n3 x3) (hp : RdS 3 (FlatR partC) w lo hi A4 n4 x4) (ha : RdS 3 (FlatR anchC) w lo hi A5 n5 x5) (hhi : hi ≤ w.heap.size) (hm : Gl.small ⟨x0, x1, x2, x3, x4, x5, x6⟩ 1000000000) (hs0 : x0.size ≤ 9223372036854775807) (hs6 : x6.size ≤ 9223372036854775807) (t0 : nameB x0 = true) (t1 : inB x1 (-1) 65535 = true) (t2 : inB x2 0 262144 = true) (hto : false = outOk x3) :
    Calls Tryz.prog 55 #[.pointer (some ⟨p, o, none⟩)] w fun e w' => e = .returned (.bool false) ∧ Below w.heap.size w w' := by
  have htn := t0.symm
  have cN := Lib.hid (fun W => specIsName_any x0 true htn W hs0)
  have cO := Lib.hid (l10OkAt_any p (o + 3) A3 n3 c3 lo hi x3 false hto w hp0 k3 ho hhi (hm.out ho.1).1 hm.k)
  replace htn := Lib.hid htn
  replace t0 := Lib.hid t0
  replace hto := Lib.hid hto
  clear ho hp ha hm
  go_enter Tryz.func55, Tryz.ntmps55
  go_wp2_with (first | (go_at_call 99; refine (cN.out _).mono ?_; rintro e w' ⟨rfl, rfl⟩) | (go_at_call 105; refine (l00In_any _ _ _ _).mono ?_; rintro e w' ⟨rfl, rfl⟩))
  refine cO.out.mono ?_
  rintro e w1 ⟨rfl, hb1⟩
  have K3 : w1.cell? ⟨p, o + 3, none⟩ = some (.slice A3 n3 c3) := (hb1.cell hp0).trans k3
  have K4 : w1.cell? ⟨p, o + 4, none⟩ = some (.slice A4 n4 c4) := (hb1.cell hp0).trans k4
  have K5 : w1.cell? ⟨p, o + 5, none⟩ = some (.slice A5 n5 c5) := (hb1.cell hp0).trans k5
  have K6 : w1.cell? ⟨p, o + 6, none⟩ = some (.string x6) := (hb1.cell hp0).trans k6
  have hp1 : p < w1.heap.size := Nat.lt_of_lt_of_le hp0 hb1.size
  clear k0 k1 k2 k3 k4 k5 k6
  go_wp2_with fail
  go_ret
  exact ⟨rfl, hb1⟩

theorem l17Glyph_n4 (p o : Nat) (x0 : ByteArray) (x1 x2 : Int) (x3 : List (List Knot)) (x4 : List Part) (x5 : List Anch) (x6 : ByteArray) (A3 A4 A5 : Option Addr) (n3 c3 n4 c4 n5 c5 lo hi : Nat) (w : World) (hp0 : p < w.heap.size)
    (k0 : w.cell? ⟨p, o, none⟩ = some (.string x0)) (k1 : w.cell? ⟨p, o + 1, none⟩ = some (.int .i64 x1)) (k2 : w.cell? ⟨p, o + 2, none⟩ = some (.int .i64 x2)) (k3 : w.cell? ⟨p, o + 3, none⟩ = some (.slice A3 n3 c3)) (k4 : w.cell? ⟨p, o + 4, none⟩ = some (.slice A4 n4 c4)) (k5 : w.cell? ⟨p, o + 5, none⟩ = some (.slice A5 n5 c5)) (k6 : w.cell? ⟨p, o + 6, none⟩ = some (.string x6))
    (ho : OutRd w lo hi A3 n3 x3) (hp : RdS 3 (FlatR partC) w lo hi A4 n4 x4) (ha : RdS 3 (FlatR anchC) w lo hi A5 n5 x5) (hhi : hi ≤ w.heap.size) (hm : Gl.small ⟨x0, x1, x2, x3, x4, x5, x6⟩ 1000000000) (hs0 : x0.size ≤ 9223372036854775807) (hs6 : x6.size ≤ 9223372036854775807) (t0 : nameB x0 = true) (t1 : inB x1 (-1) 65535 = true) (t2 : inB x2 0 262144 = true) (hto : true = outOk x3)  (hno : 6 < n4) :
    Calls Tryz.prog 55 #[.pointer (some ⟨p, o, none⟩)] w fun e w' => e = .returned (.bool false) ∧ Below w.heap.size w w' := by
  have htn := t0.symm
  have cN := Lib.hid (fun W => specIsName_any x0 true htn W hs0)
  have cO := Lib.hid (l10OkAt_any p (o + 3) A3 n3 c3 lo hi x3 true hto w hp0 k3 ho hhi (hm.out ho.1).1 hm.k)
  replace htn := Lib.hid htn
  replace t0 := Lib.hid t0
  replace hto := Lib.hid hto
  clear ho hp ha hm
  go_enter Tryz.func55, Tryz.ntmps55
  go_wp2_with (first | (go_at_call 99; refine (cN.out _).mono ?_; rintro e w' ⟨rfl, rfl⟩) | (go_at_call 105; refine (l00In_any _ _ _ _).mono ?_; rintro e w' ⟨rfl, rfl⟩))
  refine cO.out.mono ?_
  rintro e w1 ⟨rfl, hb1⟩
  have K3 : w1.cell? ⟨p, o + 3, none⟩ = some (.slice A3 n3 c3) := (hb1.cell hp0).trans k3
  have K4 : w1.cell? ⟨p, o + 4, none⟩ = some (.slice A4 n4 c4) := (hb1.cell hp0).trans k4
  have K5 : w1.cell? ⟨p, o + 5, none⟩ = some (.slice A5 n5 c5) := (hb1.cell hp0).trans k5
  have K6 : w1.cell? ⟨p, o + 6, none⟩ = some (.string x6) := (hb1.cell hp0).trans k6
  have hp1 : p < w1.heap.size := Nat.lt_of_lt_of_le hp0 hb1.size
  clear k0 k1 k2 k3 k4 k5 k6
  go_wp2_with fail
  go_ret
  exact ⟨rfl, hb1⟩

theorem l17Glyph_n5 (p o : Nat) (x0 : ByteArray) (x1 x2 : Int) (x3 : List (List Knot)) (x4 : List Part) (x5 : List Anch) (x6 : ByteArray) (A3 A4 A5 : Option Addr) (n3 c3 n4 c4 n5 c5 lo hi : Nat) (w : World) (hp0 : p < w.heap.size)
    (k0 : w.cell? ⟨p, o, none⟩ = some (.string x0)) (k1 : w.cell? ⟨p, o + 1, none⟩ = some (.int .i64 x1)) (k2 : w.cell? ⟨p, o + 2, none⟩ = some (.int .i64 x2)) (k3 : w.cell? ⟨p, o + 3, none⟩ = some (.slice A3 n3 c3)) (k4 : w.cell? ⟨p, o + 4, none⟩ = some (.slice A4 n4 c4)) (k5 : w.cell? ⟨p, o + 5, none⟩ = some (.slice A5 n5 c5)) (k6 : w.cell? ⟨p, o + 6, none⟩ = some (.string x6))
    (ho : OutRd w lo hi A3 n3 x3) (hp : RdS 3 (FlatR partC) w lo hi A4 n4 x4) (ha : RdS 3 (FlatR anchC) w lo hi A5 n5 x5) (hhi : hi ≤ w.heap.size) (hm : Gl.small ⟨x0, x1, x2, x3, x4, x5, x6⟩ 1000000000) (hs0 : x0.size ≤ 9223372036854775807) (hs6 : x6.size ≤ 9223372036854775807) (t0 : nameB x0 = true) (t1 : inB x1 (-1) 65535 = true) (t2 : inB x2 0 262144 = true) (hto : true = outOk x3) (b6 : n4 ≤ 6) (hno : 6 < n5) :
    Calls Tryz.prog 55 #[.pointer (some ⟨p, o, none⟩)] w fun e w' => e = .returned (.bool false) ∧ Below w.heap.size w w' := by
  have htn := t0.symm
  have cN := Lib.hid (fun W => specIsName_any x0 true htn W hs0)
  have cO := Lib.hid (l10OkAt_any p (o + 3) A3 n3 c3 lo hi x3 true hto w hp0 k3 ho hhi (hm.out ho.1).1 hm.k)
  replace htn := Lib.hid htn
  replace t0 := Lib.hid t0
  replace hto := Lib.hid hto
  clear ho hp ha hm
  go_enter Tryz.func55, Tryz.ntmps55
  go_wp2_with (first | (go_at_call 99; refine (cN.out _).mono ?_; rintro e w' ⟨rfl, rfl⟩) | (go_at_call 105; refine (l00In_any _ _ _ _).mono ?_; rintro e w' ⟨rfl, rfl⟩))
  refine cO.out.mono ?_
  rintro e w1 ⟨rfl, hb1⟩
  have K3 : w1.cell? ⟨p, o + 3, none⟩ = some (.slice A3 n3 c3) := (hb1.cell hp0).trans k3
  have K4 : w1.cell? ⟨p, o + 4, none⟩ = some (.slice A4 n4 c4) := (hb1.cell hp0).trans k4
  have K5 : w1.cell? ⟨p, o + 5, none⟩ = some (.slice A5 n5 c5) := (hb1.cell hp0).trans k5
  have K6 : w1.cell? ⟨p, o + 6, none⟩ = some (.string x6) := (hb1.cell hp0).trans k6
  have hp1 : p < w1.heap.size := Nat.lt_of_lt_of_le hp0 hb1.size
  clear k0 k1 k2 k3 k4 k5 k6
  go_wp2_with fail
  go_ret
  exact ⟨rfl, hb1⟩

theorem l17Glyph_n6 (p o : Nat) (x0 : ByteArray) (x1 x2 : Int) (x3 : List (List Knot)) (x4 : List Part) (x5 : List Anch) (x6 : ByteArray) (A3 A4 A5 : Option Addr) (n3 c3 n4 c4 n5 c5 lo hi : Nat) (w : World) (hp0 : p < w.heap.size)
    (k0 : w.cell? ⟨p, o, none⟩ = some (.string x0)) (k1 : w.cell? ⟨p, o + 1, none⟩ = some (.int .i64 x1)) (k2 : w.cell? ⟨p, o + 2, none⟩ = some (.int .i64 x2)) (k3 : w.cell? ⟨p, o + 3, none⟩ = some (.slice A3 n3 c3)) (k4 : w.cell? ⟨p, o + 4, none⟩ = some (.slice A4 n4 c4)) (k5 : w.cell? ⟨p, o + 5, none⟩ = some (.slice A5 n5 c5)) (k6 : w.cell? ⟨p, o + 6, none⟩ = some (.string x6))
    (ho : OutRd w lo hi A3 n3 x3) (hp : RdS 3 (FlatR partC) w lo hi A4 n4 x4) (ha : RdS 3 (FlatR anchC) w lo hi A5 n5 x5) (hhi : hi ≤ w.heap.size) (hm : Gl.small ⟨x0, x1, x2, x3, x4, x5, x6⟩ 1000000000) (hs0 : x0.size ≤ 9223372036854775807) (hs6 : x6.size ≤ 9223372036854775807) (t0 : nameB x0 = true) (t1 : inB x1 (-1) 65535 = true) (t2 : inB x2 0 262144 = true) (hto : true = outOk x3) (b6 : n4 ≤ 6) (b7 : n5 ≤ 6) (hno : 400 < x6.size) :
    Calls Tryz.prog 55 #[.pointer (some ⟨p, o, none⟩)] w fun e w' => e = .returned (.bool false) ∧ Below w.heap.size w w' := by
  have htn := t0.symm
  have cN := Lib.hid (fun W => specIsName_any x0 true htn W hs0)
  have cO := Lib.hid (l10OkAt_any p (o + 3) A3 n3 c3 lo hi x3 true hto w hp0 k3 ho hhi (hm.out ho.1).1 hm.k)
  replace htn := Lib.hid htn
  replace t0 := Lib.hid t0
  replace hto := Lib.hid hto
  clear ho hp ha hm
  go_enter Tryz.func55, Tryz.ntmps55
  go_wp2_with (first | (go_at_call 99; refine (cN.out _).mono ?_; rintro e w' ⟨rfl, rfl⟩) | (go_at_call 105; refine (l00In_any _ _ _ _).mono ?_; rintro e w' ⟨rfl, rfl⟩))
  refine cO.out.mono ?_
  rintro e w1 ⟨rfl, hb1⟩
  have K3 : w1.cell? ⟨p, o + 3, none⟩ = some (.slice A3 n3 c3) := (hb1.cell hp0).trans k3
  have K4 : w1.cell? ⟨p, o + 4, none⟩ = some (.slice A4 n4 c4) := (hb1.cell hp0).trans k4
  have K5 : w1.cell? ⟨p, o + 5, none⟩ = some (.slice A5 n5 c5) := (hb1.cell hp0).trans k5
  have K6 : w1.cell? ⟨p, o + 6, none⟩ = some (.string x6) := (hb1.cell hp0).trans k6
  have hp1 : p < w1.heap.size := Nat.lt_of_lt_of_le hp0 hb1.size
  clear k0 k1 k2 k3 k4 k5 k6
  go_wp2_with fail
  go_ret
  exact ⟨rfl, hb1⟩

set_option maxHeartbeats 8000000 in
theorem l17Glyph_l (p o : Nat) (x0 : ByteArray) (x1 x2 : Int) (x3 : List (List Knot)) (x4 : List Part) (x5 : List Anch) (x6 : ByteArray) (A3 A4 A5 : Option Addr) (n3 c3 n4 c4 n5 c5 lo hi : Nat) (w : World) (hp0 : p < w.heap.size)
    (k0 : w.cell? ⟨p, o, none⟩ = some (.string x0)) (k1 : w.cell? ⟨p, o + 1, none⟩ = some (.int .i64 x1)) (k2 : w.cell? ⟨p, o + 2, none⟩ = some (.int .i64 x2)) (k3 : w.cell? ⟨p, o + 3, none⟩ = some (.slice A3 n3 c3)) (k4 : w.cell? ⟨p, o + 4, none⟩ = some (.slice A4 n4 c4)) (k5 : w.cell? ⟨p, o + 5, none⟩ = some (.slice A5 n5 c5)) (k6 : w.cell? ⟨p, o + 6, none⟩ = some (.string x6))
    (ho : OutRd w lo hi A3 n3 x3) (hp : RdS 3 (FlatR partC) w lo hi A4 n4 x4) (ha : RdS 3 (FlatR anchC) w lo hi A5 n5 x5) (hhi : hi ≤ w.heap.size) (hm : Gl.small ⟨x0, x1, x2, x3, x4, x5, x6⟩ 1000000000) (hs0 : x0.size ≤ 9223372036854775807) (hs6 : x6.size ≤ 9223372036854775807) (hs5 : ∀ a ∈ x5, a.1.size ≤ 9223372036854775807) (v : Bool) (hv : v = glyphOk (⟨x0, x1, x2, x3, x4, x5, x6⟩ : Gl)) (t0 : nameB x0 = true) (t1 : inB x1 (-1) 65535 = true) (t2 : inB x2 0 262144 = true) (hto : true = outOk x3) (b6 : n4 ≤ 6) (b7 : n5 ≤ 6) (b8 : x6.size ≤ 400) :
    Calls Tryz.prog 55 #[.pointer (some ⟨p, o, none⟩)] w fun e w' => e = .returned (.bool v) ∧ Below w.heap.size w w' := by
  have htn := t0.symm
  have cN := Lib.hid (fun W => specIsName_any x0 true htn W hs0)
  have cO := Lib.hid (l10OkAt_any p (o + 3) A3 n3 c3 lo hi x3 true hto w hp0 k3 ho hhi (hm.out ho.1).1 hm.k)
  have lo1 := Lib.hid ho.1
  have lp1 := Lib.hid hp.1
  have la1 := Lib.hid ha.1
  have e8 := Lib.hid (fun (k : Nat) (p : Part) (h : x4[k]? = some p) (h1 : partOk p = false) => hv.trans (glyph_f8 (g := (⟨x0, x1, x2, x3, x4, x5, x6⟩ : Gl)) h h1))
  have e9 := Lib.hid (fun (k : Nat) (h : k < n5) (h1 : anchAt x5 k = false) => hv.trans (glyph_f9 (g := (⟨x0, x1, x2, x3, x4, x5, x6⟩ : Gl)) (by show k < x5.length; rw [la1.out]; exact h) h1))
  have hyes := Lib.hid (fun (h8 : (x4.take n4).all partOk = true) (h9 : (List.range n5).all (anchAt x5) = true) => show v = (decide (n4 = 0) || decide (n3 = 0)) from by
    have := hv.trans (glyph_end (g := (⟨x0, x1, x2, x3, x4, x5, x6⟩ : Gl)) t0 t1 t2 hto.symm (by show x4.length ≤ 6; rw [lp1.out]; exact b6) (by show x5.length ≤ 6; rw [la1.out]; exact b7) b8 (by show (x4.take x4.length).all partOk = true; rw [lp1.out]; exact h8) (by show (List.range x5.length).all (anchAt x5) = true; rw [la1.out]; exact h9))
    simp only [lp1.out, lo1.out] at this
    exact this)
  replace htn := Lib.hid htn
  replace t0 := Lib.hid t0
  replace hto := Lib.hid hto
  replace hv := Lib.hid hv
  replace ho := Lib.hid ho
  replace hp := Lib.hid hp
  replace ha := Lib.hid ha
  replace hs5 := Lib.hid hs5
  clear hm
  go_enter Tryz.func55, Tryz.ntmps55
  go_wp2_with (first | (go_at_call 99; refine (cN.out _).mono ?_; rintro e w' ⟨rfl, rfl⟩) | (go_at_call 105; refine (l00In_any _ _ _ _).mono ?_; rintro e w' ⟨rfl, rfl⟩))
  refine cO.out.mono ?_
  rintro e w1 ⟨rfl, hb1⟩
  have K3 : w1.cell? ⟨p, o + 3, none⟩ = some (.slice A3 n3 c3) := (hb1.cell hp0).trans k3
  have K4 : w1.cell? ⟨p, o + 4, none⟩ = some (.slice A4 n4 c4) := (hb1.cell hp0).trans k4
  have K5 : w1.cell? ⟨p, o + 5, none⟩ = some (.slice A5 n5 c5) := (hb1.cell hp0).trans k5
  have K6 : w1.cell? ⟨p, o + 6, none⟩ = some (.string x6) := (hb1.cell hp0).trans k6
  have hp1 : p < w1.heap.size := Nat.lt_of_lt_of_le hp0 hb1.size
  clear k0 k1 k2 k3 k4 k5 k6
  go_wp2_with fail
  go_loopw [3] (fun i wr => ∃ k : Nat, i = .int .i64 k ∧ k ≤ n4 ∧ (x4.take k).all partOk = true ∧ Below w1.heap.size w1 wr) (fun i wr => n4 - (intOf i).toNat)
  case atStart => exact ⟨0, rfl, Nat.zero_le _, rfl, Below.refl _ _⟩
  case round =>
    obtain ⟨k, rfl, hk, hall, hbel⟩ := hrel
    replace hall := Lib.hid hall
    have hsz := hbel.size
    have hB2 := hb1.trans (hbel.mono hb1.size)
    have hpr : p < wr.heap.size := by omega
    have z4 := (hbel.cell (p := ⟨p, o + 4, none⟩) hp1).trans K4
    by_cases hlt : k < n4
    · obtain ⟨p1, f1, ⟨y0, y1, y2⟩, rfl, _, hpw, hja, hcs⟩ := (hp.out.frame (good_flat _) (Below.sameB hB2 hhi)).at hlt
      have q0 := hcs 0 _ rfl
      have q1 := hcs 1 _ rfl
      have q2 := hcs 2 _ rfl
      simp only [Nat.add_zero] at q0 q1 q2
      have hpw' : p1 < wr.heap.size := by have := hB2.size; omega
      have e8' := Lib.hid (fun (h1 : partOk (y0, y1, y2) = false) => e8.out k _ hja h1)
      have hst := Lib.hid (fun (h1 : partOk (y0, y1, y2) = true) => all_stepX hall.out hja h1)
      clear hcs hja hall
      cases u0 : inB y0 0 39
      · have hvf := e8'.out (by simp [partOk, u0])
        subst hvf
        go_wp2_with (go_at_call 105; refine (l00In_any _ _ _ _).mono ?_; rintro e w' ⟨rfl, rfl⟩)
        go_ret
        exact ⟨rfl, hB2⟩
      cases u1 : ptOk y1 y2
      · have hvf := e8'.out (by simp [partOk, u1])
        subst hvf
        go_wp2_with (first | (go_at_call 105; refine (l00In_any _ _ _ _).mono ?_; rintro e w' ⟨rfl, rfl⟩) | (go_at_call 112; refine (l03Ok_any _ _ _).mono ?_; rintro e w2 ⟨rfl, hb2⟩))
        go_ret
        exact ⟨rfl, hB2.trans (hb2.mono hB2.size)⟩
      · go_wp2_with (first | (go_at_call 105; refine (l00In_any _ _ _ _).mono ?_; rintro e w' ⟨rfl, rfl⟩) | (go_at_call 112; refine (l03Ok_any _ _ _).mono ?_; rintro e w2 ⟨rfl, hb2⟩))
        go_roundw
        case rel => exact ⟨k + 1, by go_num, by omega, hst.out (by simp [partOk, u0, u1]), hbel.trans (hb2.mono hsz)⟩
        case measure => simp [intOf]; omega
    · have hkn : k = n4 := by omega
      have hall' := Lib.hid (show (x4.take n4).all partOk = true by rw [← hkn]; exact hall.out)
      have Z3 := (hbel.cell (p := ⟨p, o + 3, none⟩) hp1).trans K3
      have Z5 := (hbel.cell (p := ⟨p, o + 5, none⟩) hp1).trans K5
      replace hkn := Lib.hid hkn
      clear hall K3 K4 K5 K6
      go_wp2_with fail
      generalize wr = wo at hB2 z4 Z3 Z5 hpr ⊢
      clear hb1
      go_loopw [4] (fun i wr => ∃ k : Nat, i = .int .i64 k ∧ k ≤ n5 ∧ (List.range k).all (anchAt x5) = true ∧ Below wo.heap.size wo wr) (fun i wr => n5 - (intOf i).toNat)
      case atStart => exact ⟨0, rfl, Nat.zero_le _, rfl, Below.refl _ _⟩
      case round =>
        obtain ⟨k, rfl, hk, hall, hbel⟩ := hrel
        replace hall := Lib.hid hall
        have hsz := hbel.size
        have hB3 := hB2.trans (hbel.mono hB2.size)
        have hprr : p < wr.heap.size := by omega
        have y5 := (hbel.cell (p := ⟨p, o + 5, none⟩) hpr).trans Z5
        by_cases hlt : k < n5
        · obtain ⟨p1, f1, ⟨y0, y1, y2⟩, rfl, _, hpw, hja, hcs⟩ := (ha.out.frame (good_flat _) (Below.sameB hB3 hhi)).at hlt
          have q0 := hcs 0 _ rfl
          have q1 := hcs 1 _ rfl
          have q2 := hcs 2 _ rfl
          simp only [Nat.add_zero] at q0 q1 q2
          have hpw' : p1 < wr.heap.size := by have := hB3.size; omega
          have hzy : y0.size ≤ 9223372036854775807 := hs5.out _ (List.mem_of_getElem? hja)
          have hno := Lib.hid (fun (h : anchAt x5 k = false) => e9.out k hlt h)
          have hst := Lib.hid (fun (h : anchAt x5 k = true) => range_step hall.out h)
          have hat := Lib.hid (anchAt_eq hja)
          have hjk := Lib.hid hja
          obtain ⟨tn, htn'⟩ : ∃ t, t = nameB y0 := ⟨_, rfl⟩
          have cN2 := Lib.hid (fun W => specIsName_any y0 tn htn' W hzy)
          replace htn' := Lib.hid htn'
          clear hcs hja hall
          cases tn
          · have hvf := hno.out (by rw [hat.out, htn'.out.symm]; rfl)
            subst hvf
            go_wp2_with (go_at_call 99; refine (cN2.out _).mono ?_; rintro e w' ⟨rfl, rfl⟩)
            go_ret
            exact ⟨rfl, hB3⟩
          cases u1 : ptOk y1 y2
          · have hvf := hno.out (by rw [hat.out, u1]; simp)
            subst hvf
            go_wp2_with (first | (go_at_call 99; refine (cN2.out _).mono ?_; rintro e w' ⟨rfl, rfl⟩) | (go_at_call 112; refine (l03Ok_any _ _ _).mono ?_; rintro e w2 ⟨rfl, hb2⟩))
            go_ret
            exact ⟨rfl, hB3.trans (hb2.mono hB3.size)⟩
          have hat' := Lib.hid (show anchAt x5 k = anchFree (x5.take k) (y0, y1, y2) by rw [hat.out, htn'.out.symm, u1]; rfl)
          go_wp2_with (first | (go_at_call 99; refine (cN2.out _).mono ?_; rintro e w' ⟨rfl, rfl⟩) | (go_at_call 112; refine (l03Ok_any _ _ _).mono ?_; rintro e w2 ⟨rfl, hb2⟩))
          have hB4 := hB3.trans (hb2.mono hB3.size)
          have hbw := hbel.trans (hb2.mono hsz)
          have y5' : w2.cell? ⟨p, o + 5, none⟩ = some (.slice (some ⟨p1, f1, none⟩) n5 c5) := (hb2.cell hprr).trans y5
          have q0' : w2.cell? ⟨p1, f1 + k * 3, none⟩ = some (.string y0) := (hb2.cell hpw').trans q0
          have hr5 := Lib.hid (ha.out.frame (good_flat _) (Below.sameB hB4 hhi))
          have hs2 := hb2.size
          have hp2 : p < w2.heap.size := by omega
          have hpw2 : p1 < w2.heap.size := by omega
          have hki : (0 : Int) ≤ (k : Int) ∧ (k : Int) < (n5 : Int) := by omega
          clear q0 q1 q2 y5 hat hb2 hbel hB3
          go_loopw [5] (fun i wq => ∃ j q : Nat, i = .int .i64 j ∧ j ≤ k ∧ anchFree (x5.take j) (y0, y1, y2) = true ∧ wq = w2.drewN q) (fun i wq => k - (intOf i).toNat)
          case atStart => exact ⟨0, 0, rfl, Nat.zero_le _, rfl, rfl⟩
          case round =>
            obtain ⟨j, q, rfl, hj, hfr, rfl⟩ := hrel
            replace hfr := Lib.hid hfr
            by_cases hjl : j < k
            · obtain ⟨p2, f2, ⟨z0, z1, z2⟩, hA, _, _, hjb, hcs⟩ := hr5.out.at (j := j) (by omega)
              injection hA with hA
              injection hA with hA1 hA2
              subst hA1 hA2
              have r0 := hcs 0 _ rfl
              simp only [Nat.add_zero] at r0
              have hji : (0 : Int) ≤ (j : Int) ∧ (j : Int) < (n5 : Int) := by omega
              have hn2 := Lib.hid (fun (h : z0 = y0) => anchFree_no (a := (y0, y1, y2)) hjl hjb h)
              have hs2 := Lib.hid (fun (h : z0 ≠ y0) => anchFree_step hfr.out hjb h)
              clear hcs hjb
              by_cases e0 : z0 = y0
              · have hvf := hno.out (by rw [hat'.out]; exact hn2.out e0)
                subst e0
                subst hvf
                go_wp2_with fail
                go_quiet (fail)
                go_wp2_with fail
                go_ret
                exact ⟨rfl, by first | exact below_drewN hB4 _ | (rw [World.drewN_drewN]; exact below_drewN hB4 _)⟩
              · have hs3 := Lib.hid (hs2.out e0)
                have u0 : (z0.toList == y0.toList) = false := bytes_neq e0
                clear e0
                go_wp2_with fail
                go_quiet (fail)
                go_wp2_with fail
                go_roundw
                case rel => exact ⟨j + 1, _, by go_num, by omega, hs3.out, rfl⟩
                case measure => simp [intOf]; omega
            · have hjk' : j = k := by omega
              have hst' := Lib.hid (hst.out (by rw [hat'.out, ← hjk']; exact hfr.out))
              replace hjk' := Lib.hid hjk'
              go_wp2_with fail
              go_roundw
              case rel => exact ⟨k + 1, by go_num, by omega, hst'.out, below_drewN hbw _⟩
              case measure => simp [intOf]; omega
        · have hkn : k = n5 := by omega
          have hvt := Lib.hid (hyes.out hall'.out (by rw [← hkn]; exact hall.out))
          replace hkn := Lib.hid hkn
          have y4 := (hbel.cell (p := ⟨p, o + 4, none⟩) hpr).trans z4
          have y3 := (hbel.cell (p := ⟨p, o + 3, none⟩) hpr).trans Z3
          by_cases e4 : n4 = 0
          · have g4 : ((n4 : Int) == 0) = true := by simp [e4]
            have hvv : v = true := by rw [hvt.out]; simp [e4]
            subst hvv
            clear e4
            go_wp2_with fail
            go_ret
            exact ⟨rfl, hB3⟩
          · have g4 : ((n4 : Int) == 0) = false := by simp; omega
            by_cases e3 : n3 = 0
            · have g3 : ((n3 : Int) == 0) = true := by simp [e3]
              have hvv : v = true := by rw [hvt.out]; simp [e3]
              subst hvv
              clear e3 e4
              go_wp2_with fail
              go_ret
              exact ⟨rfl, hB3⟩
            · have g3 : ((n3 : Int) == 0) = false := by simp; omega
              have hvv : v = false := by rw [hvt.out]; simp [e3, e4]
              subst hvv
              clear e3 e4
              go_wp2_with fail
              go_ret
              exact ⟨rfl, hB3⟩

theorem l17Glyph_any (p o : Nat) (d : Gl) (h : GlH) (v : Bool) (hv : v = glyphOk d) (lo hi : Nat) (w : World) (hp0 : p < w.heap.size) (hc : ∀ i u, (glC d h)[i]? = some u → w.cell? ⟨p, o + i, none⟩ = some u) (hr : GlRd w lo hi d h) (hhi : hi ≤ w.heap.size) (hm : d.small 1000000000) (hs : d.name.size ≤ 9223372036854775807 ∧ d.hints.size ≤ 9223372036854775807 ∧ ∀ a ∈ d.anchors, a.1.size ≤ 9223372036854775807) :
    Calls Tryz.prog 55 #[.pointer (some ⟨p, o, none⟩)] w fun e w' => e = .returned (.bool v) ∧ Below w.heap.size w w' := by
  have lp1 := hr.2.1.1
  have la1 := hr.2.2.1
  cases t0 : nameB d.name
  · rw [hv, glyph_f1 t0]; exact l17Glyph_n0 p o d.name d.code d.adv d.out d.parts d.anchors d.hints h.out.A h.parts.A h.anchors.A h.out.n h.out.c h.parts.n h.parts.c h.anchors.n h.anchors.c lo hi w hp0 (hc 0 _ rfl) (hc 1 _ rfl) (hc 2 _ rfl) (hc 3 _ rfl) (hc 4 _ rfl) (hc 5 _ rfl) (hc 6 _ rfl) hr.1 hr.2.1 hr.2.2 hhi hm hs.1 hs.2.1 t0
  cases t1 : inB d.code (-1) 65535
  · rw [hv, glyph_f2 t1]; exact l17Glyph_n1 p o d.name d.code d.adv d.out d.parts d.anchors d.hints h.out.A h.parts.A h.anchors.A h.out.n h.out.c h.parts.n h.parts.c h.anchors.n h.anchors.c lo hi w hp0 (hc 0 _ rfl) (hc 1 _ rfl) (hc 2 _ rfl) (hc 3 _ rfl) (hc 4 _ rfl) (hc 5 _ rfl) (hc 6 _ rfl) hr.1 hr.2.1 hr.2.2 hhi hm hs.1 hs.2.1 t0 t1
  cases t2 : inB d.adv 0 262144
  · rw [hv, glyph_f3 t2]; exact l17Glyph_n2 p o d.name d.code d.adv d.out d.parts d.anchors d.hints h.out.A h.parts.A h.anchors.A h.out.n h.out.c h.parts.n h.parts.c h.anchors.n h.anchors.c lo hi w hp0 (hc 0 _ rfl) (hc 1 _ rfl) (hc 2 _ rfl) (hc 3 _ rfl) (hc 4 _ rfl) (hc 5 _ rfl) (hc 6 _ rfl) hr.1 hr.2.1 hr.2.2 hhi hm hs.1 hs.2.1 t0 t1 t2
  cases t3 : outOk d.out
  · rw [hv, glyph_f4 t3]; exact l17Glyph_n3 p o d.name d.code d.adv d.out d.parts d.anchors d.hints h.out.A h.parts.A h.anchors.A h.out.n h.out.c h.parts.n h.parts.c h.anchors.n h.anchors.c lo hi w hp0 (hc 0 _ rfl) (hc 1 _ rfl) (hc 2 _ rfl) (hc 3 _ rfl) (hc 4 _ rfl) (hc 5 _ rfl) (hc 6 _ rfl) hr.1 hr.2.1 hr.2.2 hhi hm hs.1 hs.2.1 t0 t1 t2 t3.symm
  by_cases b6 : h.parts.n ≤ 6
  rotate_left
  · rw [hv, glyph_f5 (by omega)]; exact l17Glyph_n4 p o d.name d.code d.adv d.out d.parts d.anchors d.hints h.out.A h.parts.A h.anchors.A h.out.n h.out.c h.parts.n h.parts.c h.anchors.n h.anchors.c lo hi w hp0 (hc 0 _ rfl) (hc 1 _ rfl) (hc 2 _ rfl) (hc 3 _ rfl) (hc 4 _ rfl) (hc 5 _ rfl) (hc 6 _ rfl) hr.1 hr.2.1 hr.2.2 hhi hm hs.1 hs.2.1 t0 t1 t2 t3.symm (by omega)
  by_cases b7 : h.anchors.n ≤ 6
  rotate_left
  · rw [hv, glyph_f6 (by omega)]; exact l17Glyph_n5 p o d.name d.code d.adv d.out d.parts d.anchors d.hints h.out.A h.parts.A h.anchors.A h.out.n h.out.c h.parts.n h.parts.c h.anchors.n h.anchors.c lo hi w hp0 (hc 0 _ rfl) (hc 1 _ rfl) (hc 2 _ rfl) (hc 3 _ rfl) (hc 4 _ rfl) (hc 5 _ rfl) (hc 6 _ rfl) hr.1 hr.2.1 hr.2.2 hhi hm hs.1 hs.2.1 t0 t1 t2 t3.symm b6 (by omega)
  by_cases b8 : d.hints.size ≤ 400
  rotate_left
  · rw [hv, glyph_f7 (by omega)]; exact l17Glyph_n6 p o d.name d.code d.adv d.out d.parts d.anchors d.hints h.out.A h.parts.A h.anchors.A h.out.n h.out.c h.parts.n h.parts.c h.anchors.n h.anchors.c lo hi w hp0 (hc 0 _ rfl) (hc 1 _ rfl) (hc 2 _ rfl) (hc 3 _ rfl) (hc 4 _ rfl) (hc 5 _ rfl) (hc 6 _ rfl) hr.1 hr.2.1 hr.2.2 hhi hm hs.1 hs.2.1 t0 t1 t2 t3.symm b6 b7 (by omega)
  exact l17Glyph_l p o d.name d.code d.adv d.out d.parts d.anchors d.hints h.out.A h.parts.A h.anchors.A h.out.n h.out.c h.parts.n h.parts.c h.anchors.n h.anchors.c lo hi w hp0 (hc 0 _ rfl) (hc 1 _ rfl) (hc 2 _ rfl) (hc 3 _ rfl) (hc 4 _ rfl) (hc 5 _ rfl) (hc 6 _ rfl) hr.1 hr.2.1 hr.2.2 hhi hm hs.1 hs.2.1 hs.2.2 v hv t0 t1 t2 t3.symm b6 b7 b8

end Go.Proofs.YtfkidklpjiiclaaGreat

