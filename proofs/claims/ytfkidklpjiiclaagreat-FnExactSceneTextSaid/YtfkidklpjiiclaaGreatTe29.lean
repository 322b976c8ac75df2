/- What is reckoned of a glyph out of what is reckoned of its parts: in the order in which parts come first. No walk in sight. Conditions: as each states. -/
import Derived.BigQuiet
import Derived.Lib.QuietBelow
import Derived.Deep.RegionHeld3
import Derived.Test.YtfkidklpjiiclaaGreatTe26
import Derived.Test.YtfkidklpjiiclaaGreatTe28
import Derived.Test.YtfkidklpjiiclaaGreatTe16
import Derived.Test.YtfkidklpjiiclaaGreatTe03
namespace Go.Proofs.YtfkidklpjiiclaaGreat
set_option linter.unusedVariables false
set_option maxRecDepth 100000

variable {α : Type} {G : (Int → α) → Int → α} {z : α} {T : List (List Int)} {out : List Int}
theorem take_snoc_at {l : List Int} {t : Nat} {x : Int} (h : l[t]? = some x) : l.take (t + 1) = l.take t ++ [x] := by
  have hl := (List.getElem?_eq_some_iff.1 h).1
  rw [List.take_succ_eq_append_getElem hl]
  rw [List.getElem?_eq_getElem hl] at h
  injection h with h; rw [h]
/-! ### the number of loops -/
end Go.Proofs.YtfkidklpjiiclaaGreat

/- The order in which parts come first: the reference's walk. Conditions: as each states. -/
namespace Go.Proofs.YtfkidklpjiiclaaGreat
open Go.RowKit
set_option linter.unusedVariables false
set_option maxRecDepth 100000

theorem elemI64o : Elem Tryz.prog 151 2 1 8 := elem_mk (z := .int .i64 0) Tryz.underlying151 (by kernel_rfl) rfl (by omega)
def lenV : Value → Nat
  | .slice _ n _ => n
  | _ => 0
def bitV : Value → Nat
  | .bool true => 1
  | _ => 0

set_option maxHeartbeats 1000000 in
theorem l00Has_any (A : Option Addr) (n c lo hi : Nat) (L : List Int) (x : Int) (b : Bool) (hb : b = decide (x ∈ L)) (w : World) (hr : RdS 1 (FlatR intC) w lo hi A n L) (hhi : hi ≤ w.heap.size) (hn : n ≤ 1000000000) :
    Calls Tryz.prog 152 #[.slice A n c, .int .i64 x] w fun e w' => e = .returned (.bool b) ∧ w = w' := by
  replace hr := Lib.hid hr
  replace hb := Lib.hid hb
  go_enter Tryz.func152, Tryz.ntmps152
  go_wp2_with fail
  go_loop [5] (fun i => ∃ k : Nat, k ≤ n ∧ i = .int .i64 k ∧ ∀ y ∈ L.take k, y ≠ x) (fun i => n - (intOf i).toNat)
  case atStart => exact ⟨0, Nat.zero_le _, rfl, by simp⟩
  case round =>
    obtain ⟨k, hk, rfl, hall⟩ := hrel
    replace hall := Lib.hid hall
    by_cases hlt : k < n
    · obtain ⟨b1, o1, y0, rfl, _, hbw, hja, hcs⟩ := hr.out.at hlt
      have q0 := hcs 0 _ rfl
      simp only [Nat.mul_one, Nat.add_zero] at q0
      have hbw' : b1 < w.heap.size := by omega
      replace hja := Lib.hid hja
      clear hcs
      by_cases e0 : y0 = x
      · have hbt : b = true := by rw [hb.out, decide_eq_true_iff, ← e0]; exact List.mem_of_getElem? hja.out
        subst hbt
        have u0 : (y0 == x) = true := by simp [e0]
        replace e0 := Lib.hid e0
        go_wp2_with fail
        go_ret
        exact ⟨rfl, rfl⟩
      · have u0 : (y0 == x) = false := by simp [e0]
        replace e0 := Lib.hid e0
        go_wp2_with fail
        go_round
        case rel => exact ⟨k + 1, by omega, by go_num, by
          intro y hy
          rw [take_snoc_at hja.out, List.mem_append] at hy
          rcases hy with hy | hy
          · exact hall.out y hy
          · simp at hy; rw [hy]; exact e0.out⟩
        case measure => simp [intOf]; omega
    · have hkn : k = n := by omega
      have hbf : b = false := by
        rw [hb.out, decide_eq_false_iff_not]
        intro hm
        have := hall.out x (by rw [hkn, List.take_of_length_le (Nat.le_of_eq hr.out.1)]; exact hm)
        exact this rfl
      subst hbf
      replace hkn := Lib.hid hkn
      go_wp2_with fail
      go_ret
      exact ⟨rfl, rfl⟩

theorem flat_int_snoc (L : List Int) (x : Int) : (L ++ [x]).flatMap intC = L.flatMap intC ++ [.int .i64 x] := by rw [List.flatMap_append]; rfl
def inAll (out ps : List Int) : Bool := ps.all fun q => decide (q ∈ out)
theorem inAll_iff {out ps : List Int} : inAll out ps = true ↔ ∀ q ∈ ps, q ∈ out := by simp [inAll]
theorem inAll_step {ps out : List Int} {k : Nat} {p : Int} (h : ps[k]? = some p) : (inAll out (ps.take k) && decide (p ∈ out)) = inAll out (ps.take (k + 1)) := by
  rw [take_snoc_at h]; simp [inAll, List.all_append]

set_option maxHeartbeats 8000000 in
theorem l17Order_any (p o : Nat) (A : Option Addr) (n c lo hi : Nat) (L : List Gl) (w : World) (hp0 : p < w.heap.size) (hc1 : w.cell? ⟨p, o + 1, none⟩ = some (.slice A n c)) (hr : GsRd w lo hi A n L) (hhi : hi ≤ w.heap.size) (hn : n ≤ 40) (hps : ∀ g ∈ L, g.parts.length ≤ 6) :
    Calls Tryz.prog 108 #[.pointer (some ⟨p, o, none⟩)] w fun e w' => ∃ A' c', e = .returned (.slice A' (order (tgts L)).length c') ∧ w'.ownsRow w.heap.size 2 1 (.slice A' (order (tgts L)).length c') (order (tgts L)).length ((order (tgts L)).flatMap intC) ∧ Below w.heap.size w w' := by
  obtain ⟨T, hT⟩ : ∃ T, T = tgts L := ⟨_, rfl⟩
  rw [← hT]
  have hTl : Hid (T.length = n) := by show T.length = n; rw [hT, tgts_length, hr.1]
  have hTat := Lib.hid (fun (j : Nat) (g : Gl) (h : L[j]? = some g) => show T[j]? = some (g.parts.map (·.1)) from by rw [hT]; exact tgts_at h)
  replace hT := Lib.hid hT
  replace hr := Lib.hid hr
  replace hps := Lib.hid hps
  have hown0 : (w.alloc (.cells #[] 2)).ownsRow w.heap.size 2 1 (.slice (some ⟨w.heap.size, 0, none⟩) 0 0) 0 [] := World.ownsRow_made w #[] 0 (Nat.le_refl _) (Nat.zero_le _) rfl
  go_enter Tryz.func108, Tryz.ntmps108
  go_wp2_with fail
  go_loopw [3, 4] (fun v3 v4 wr => ∃ (out : List Int) (f : Nat) (m : Bool) (A' : Option Addr) (c' : Nat), v3 = .slice A' out.length c' ∧ v4 = .bool m ∧ wr.ownsRow w.heap.size 2 1 (.slice A' out.length c') out.length (out.flatMap intC) ∧ OrdTo T out f ∧ (m = false → order T = out) ∧ Below w.heap.size w wr) (fun v3 v4 wr => 2 * (41 - lenV v3) + bitV v4)
  case atStart => exact ⟨[], T.length + 1, true, _, 0, rfl, rfl, hown0, OrdTo.start T, (fun h => by cases h), (Below.refl _ _).alloc (Nat.le_refl _) _⟩
  case round =>
    clear hown0
    obtain ⟨out, f, m, A', c', rfl, rfl, ho, hto, hmf, hbel⟩ := hrel
    have hol : out.length ≤ 40 := by have := hto.ord.le; have := hTl.out; omega
    replace hto := Lib.hid hto
    replace hmf := Lib.hid hmf
    replace ho := Lib.hid ho
    cases m with
    | false =>
      have e := hmf.out rfl
      rw [e]
      go_wp2_with fail
      go_ret
      exact ⟨_, _, rfl, ho.out, hbel⟩
    | true =>
      go_wp2_with fail
      obtain ⟨wo, hwo⟩ : ∃ wo : World, wo = wr := ⟨_, rfl⟩
      replace hwo := Lib.hid hwo
      go_loopw [3, 4, 5] (fun v3 v4 v5 wr => ∃ (k : Nat) (m : Bool) (A' : Option Addr) (c' : Nat), v5 = .int .i64 k ∧ k ≤ n ∧ v3 = .slice A' (passK T out k).length c' ∧ v4 = .bool m ∧ (m = true ↔ out.length < (passK T out k).length) ∧ wr.ownsRow w.heap.size 2 1 (.slice A' (passK T out k).length c') (passK T out k).length ((passK T out k).flatMap intC) ∧ Below w.heap.size w wr) (fun v3 v4 v5 wr => n - (intOf v5).toNat)
      case atStart => exact ⟨0, false, A', c', rfl, Nat.zero_le _, rfl, rfl, by simp [passK], ho.out, hbel⟩
      case round =>
        clear hbel ho hwo
        obtain ⟨k, m, A2, c2, rfl, hk, rfl, rfl, hm, ho, hbel⟩ := hrel
        have hpl : (passK T out k).length ≤ 40 := by have := (hto.out.ord.passK k).le; have := hTl.out; omega
        have hple := Lib.hid (passK_le T out k)
        have hpord := Lib.hid (hto.out.ord.passK k)
        have hps1 : passK T out (k + 1) = stepO T (passK T out k) k := rfl
        replace hps1 := Lib.hid hps1
        generalize hpe0 : passK T out k = o2 at hpl hple hpord hps1 ho hm ⊢
        have hpe := Lib.hid hpe0.symm
        clear hpe0
        replace hm := Lib.hid hm
        have hsz := hbel.size
        have hpr : p < wr.heap.size := by omega
        have kc := (hbel.cell (p := ⟨p, o + 1, none⟩) hp0).trans hc1
        have hhas := Lib.hid (fun (x : Int) (b : Bool) (hb : b = decide (x ∈ o2)) => l00Has_any A2 o2.length c2 w.heap.size wr.heap.size o2 x b hb wr (rdS_own intC_len (by omega) ho rfl) (Nat.le_refl _) (by omega))
        by_cases hlt : k < n
        · obtain ⟨b1, f1, d, hh, rfl, hb0, hb1, hja, hcs, hrg⟩ := gs_at (hr.out.frame good_glyph (Below.sameB hbel hhi)) hlt
          have q4 := hcs 4 _ rfl
          have hb1w : b1 < wr.heap.size := by omega
          have hpn : hh.parts.n ≤ 6 := by rw [← hrg.2.1.1]; exact hps.out d (List.mem_of_getElem? hja)
          have hTk := Lib.hid (hTat.out k d hja)
          have hrp := Lib.hid hrg.2.1
          clear hcs hrg hja hb0 hb1
          have hki : (0 : Int) ≤ (k : Int) ∧ (k : Int) < (n : Int) := by omega
          by_cases hmem : (k : Int) ∈ o2
          · have hst : passK T out (k + 1) = o2 := by rw [hps1.out]; exact stepO_in hmem
            have hc := hhas.out k true (by simp [hmem])
            replace hc := Lib.hid hc
            clear hmem q4
            go_wp2_with (go_at_call 152; refine hc.out.mono ?_; rintro e w' ⟨rfl, rfl⟩)
            go_roundw
            case rel => exact ⟨k + 1, m, A2, c2, by go_num, by omega, by rw [hst], rfl, by rw [hst]; exact hm.out, by rw [hst]; exact ho, hbel⟩
            case measure => simp [intOf]; omega
          · have hc := hhas.out k false (by simp [hmem])
            replace hc := Lib.hid hc
            replace hmem := Lib.hid hmem
            go_wp2_with (go_at_call 152; refine hc.out.mono ?_; rintro e w' ⟨rfl, rfl⟩)
            go_loop [6, 7] (fun v6 v7 => ∃ (j : Nat), v7 = .int .i64 j ∧ j ≤ hh.parts.n ∧ v6 = .bool (inAll o2 ((d.parts.map (·.1)).take j))) (fun v6 v7 => hh.parts.n - (intOf v7).toNat)
            case atStart => exact ⟨0, rfl, Nat.zero_le _, rfl⟩
            case round =>
              obtain ⟨j, rfl, hj, rfl⟩ := hrel
              have hjs := Lib.hid (fun (p : Int) (h : (d.parts.map (·.1))[j]? = some p) => inAll_step (out := o2) h)
              by_cases hjl : j < hh.parts.n
              · obtain ⟨p1, g1, ⟨y0, y1, y2⟩, hA, _, hpw, hjb, hcs⟩ := hrp.out.at hjl
                have q0 := hcs 0 _ rfl
                simp only [Nat.add_zero] at q0
                rw [hA] at q4
                have hpw' : p1 < wr.heap.size := by omega
                have hji : (0 : Int) ≤ (j : Int) ∧ (j : Int) < (hh.parts.n : Int) := by omega
                have hs1 := Lib.hid (hjs.out y0 (by rw [List.getElem?_map, hjb]; rfl))
                generalize inAll o2 ((d.parts.map (·.1)).take j) = rd at hs1 ⊢
                have hc2 := Lib.hid (hhas.out y0)
                replace hA := Lib.hid hA
                clear hcs hjb hjs
                cases rd
                · go_wp2_with fail
                  go_round
                  case rel => exact ⟨j + 1, by go_num, by omega, by rw [← hs1.out]; rfl⟩
                  case measure => simp [intOf]; omega
                · obtain ⟨t, ht⟩ : ∃ t, t = decide (y0 ∈ o2) := ⟨_, rfl⟩
                  have hc3 := Lib.hid (hc2.out t ht)
                  replace ht := Lib.hid ht
                  go_wp2_with (go_at_call 152; refine hc3.out.mono ?_; rintro e w' ⟨rfl, rfl⟩)
                  go_round
                  case rel => exact ⟨j + 1, by go_num, by omega, by rw [← hs1.out, ht.out]; rfl⟩
                  case measure => simp [intOf]; omega
              · have hjn : j = hh.parts.n := by omega
                have hfull : (d.parts.map (·.1)).take j = d.parts.map (·.1) := List.take_of_length_le (by rw [List.length_map, hrp.out.1]; omega)
                rw [hfull]
                replace hfull := Lib.hid hfull
                replace hjn := Lib.hid hjn
                clear hjs
                cases hrd : inAll o2 (d.parts.map (·.1)) with
                | false =>
                  have hst : passK T out (k + 1) = o2 := by rw [hps1.out]; exact stepO_wait hTk.out (by rw [← inAll_iff, hrd]; simp)
                  replace hst := Lib.hid hst
                  replace hrd := Lib.hid hrd
                  go_wp2_with fail
                  go_roundw
                  case rel => exact ⟨k + 1, m, A2, c2, by go_num, by omega, by rw [hst.out], rfl, by rw [hst.out]; exact hm.out, by rw [hst.out]; exact ho, hbel⟩
                  case measure => simp [intOf]; omega
                | true =>
                  have hst : passK T out (k + 1) = o2 ++ [(k : Int)] := by rw [hps1.out]; exact stepO_add hTk.out hmem.out (inAll_iff.1 hrd)
                  replace hst := Lib.hid hst
                  replace hrd := Lib.hid hrd
                  replace ho := Lib.hid ho
                  go_wp2_with (at_builtin; refine wpApp rfl (.tmp 53) (.tmp 55) elemI64o rfl (base := w.heap.size) (v := .slice A2 o2.length c2) rfl (ho.out.alloc _) rfl (src_at (cs := [.int .i64 (k : Int)]) rfl (by simp [Value.oneCell']) (by simp)) (by omega) (by omega) (by simp; omega) (o2.length + 1) rfl ?_; intro A3 c3 w1 ho1 hb1; replace ho1 := Lib.hid ho1)
                  go_roundw
                  case rel =>
                    refine ⟨k + 1, true, A3, c3, by go_num, by omega, ?_, rfl, ?_, ?_, (hbel.alloc hsz _).trans hb1⟩
                    · rw [hst.out, List.length_append]; rfl
                    · rw [hst.out, List.length_append]; have := hple.out; simp; omega
                    · rw [hst.out, flat_int_snoc, List.length_append]; exact ho1.out
                  case measure => simp [intOf]; omega
        · have hkn : k = n := by omega
          have hTn : T.length = k := by rw [hTl.out, hkn]
          have hto' := Lib.hid hto.out
          have hfin : Hid (∃ f' : Nat, OrdTo T o2 f' ∧ (m = false → order T = o2)) := by
            have e2 : o2 = passK T out T.length := by rw [hTn, ← hpe.out]
            by_cases he : (passK T out T.length).length = out.length
            · have e3 := passK_eq he
              refine ⟨f, ?_, fun _ => ?_⟩
              · rw [e2, e3]; exact hto.out
              · rw [e2, e3]; exact hto.out.done he
            · obtain ⟨g, _, hg⟩ := hto.out.next he
              refine ⟨g, by rw [e2]; exact hg, fun hmf => ?_⟩
              have h1 := hple.out
              rw [← e2] at he
              have h3 := mt hm.out.2 (by rw [hmf]; simp)
              omega
          obtain ⟨f', h1, h2⟩ := hfin.out
          replace h1 := Lib.hid h1
          replace h2 := Lib.hid h2
          replace hkn := Lib.hid hkn
          replace hTn := Lib.hid hTn
          go_wp2_with fail
          go_roundw
          case rel => exact ⟨o2, f', m, A2, c2, rfl, rfl, ho, h1.out, h2.out, hbel⟩
          case measure =>
            have h3 := hple.out
            have h4 := hm.out
            cases m <;> simp [lenV, bitV] at h4 ⊢ <;> omega
end Go.Proofs.YtfkidklpjiiclaaGreat

/- Whether a set of glyphs is valid: the reference's side. Conditions: as each states. -/
namespace Go.Proofs.YtfkidklpjiiclaaGreat
open Go.RowKit
set_option linter.unusedVariables false
set_option maxRecDepth 100000

theorem l17Clash_flat (p1 o1 p2 o2 : Nat) (x0 y0 : ByteArray) (x1 y1 : Int) (b : Bool) (hb : b = (decide (x0 = y0) || (decide (0 ≤ x1) && decide (x1 = y1)))) (w : World)
    (q0 : w.cell? ⟨p1, o1, none⟩ = some (.string x0)) (q1 : w.cell? ⟨p1, o1 + 1, none⟩ = some (.int .i64 x1)) (r0 : w.cell? ⟨p2, o2, none⟩ = some (.string y0)) (r1 : w.cell? ⟨p2, o2 + 1, none⟩ = some (.int .i64 y1)) :
    Calls Tryz.prog 107 #[.pointer (some ⟨p1, o1, none⟩), .pointer (some ⟨p2, o2, none⟩)] w fun e w' => e = .returned (.bool b) ∧ Below w.heap.size w w' := by
  by_cases e0 : x0 = y0
  · obtain rfl : b = true := by rw [hb]; simp [e0]
    clear hb
    subst e0
    go_enter Tryz.func107, Tryz.ntmps107
    go_wp2_with fail
    go_quiet (fail)
    go_wp2_with fail
    go_ret
    exact ⟨rfl, below_drewN (Below.refl _ _) _⟩
  have u0 : (x0.toList == y0.toList) = false := bytes_neq e0
  by_cases e1 : 0 ≤ x1
  rotate_left
  · obtain rfl : b = false := by rw [hb]; simp [e0, e1]
    have u1 : decide ((0 : Int) ≤ x1) = false := by simpa using e1
    clear hb e0 e1
    go_enter Tryz.func107, Tryz.ntmps107
    go_wp2_with fail
    go_quiet (fail)
    go_wp2_with fail
    go_ret
    exact ⟨rfl, below_drewN (Below.refl _ _) _⟩
  have u1 : decide ((0 : Int) ≤ x1) = true := by simpa using e1
  by_cases e2 : x1 = y1
  · obtain rfl : b = true := by rw [hb]; simp [e1, ← e2]
    subst e2
    clear hb e0 e1
    go_enter Tryz.func107, Tryz.ntmps107
    go_wp2_with fail
    go_quiet (fail)
    go_wp2_with fail
    go_ret
    exact ⟨rfl, below_drewN (Below.refl _ _) _⟩
  · obtain rfl : b = false := by rw [hb]; simp [e0, e2]
    have u2 : (x1 == y1) = false := by simp [e2]
    clear hb e0 e1 e2
    go_enter Tryz.func107, Tryz.ntmps107
    go_wp2_with fail
    go_quiet (fail)
    go_wp2_with fail
    go_ret
    exact ⟨rfl, below_drewN (Below.refl _ _) _⟩
theorem l17Clash_any (p1 o1 p2 o2 : Nat) (d d' : Gl) (h h' : GlH) (b : Bool) (hb : b = clash d d') (w : World)
    (c1 : ∀ i u, (glC d h)[i]? = some u → w.cell? ⟨p1, o1 + i, none⟩ = some u) (c2 : ∀ i u, (glC d' h')[i]? = some u → w.cell? ⟨p2, o2 + i, none⟩ = some u) :
    Calls Tryz.prog 107 #[.pointer (some ⟨p1, o1, none⟩), .pointer (some ⟨p2, o2, none⟩)] w fun e w' => e = .returned (.bool b) ∧ Below w.heap.size w w' :=
  l17Clash_flat p1 o1 p2 o2 d.name d'.name d.code d'.code b hb w (c1 0 _ rfl) (c1 1 _ rfl) (c2 0 _ rfl) (c2 1 _ rfl)

theorem glOk_all {L : List Gl} {n : Nat} (hn : L.length = n) (h : (List.range n).all (glAt L) = true) : ∀ g ∈ L, glyphOk g = true := fun g hg => by
  obtain ⟨j, hj⟩ := List.getElem?_of_mem hg
  have := range_at h (by rw [← hn]; exact (List.getElem?_eq_some_iff.1 hj).1)
  rw [glAt_eq hj] at this
  simp at this
  exact this.1

set_option maxHeartbeats 8000000 in
theorem l17Ok_any (p o : Nat) (u : Int) (A : Option Addr) (n c lo hi : Nat) (L : List Gl) (v : Bool) (hv : v = setOk ⟨u, L⟩) (w : World) (hp0 : p < w.heap.size) (k0 : w.cell? ⟨p, o, none⟩ = some (.int .i64 u)) (k1 : w.cell? ⟨p, o + 1, none⟩ = some (.slice A n c)) (hr : GsRd w lo hi A n L) (hhi : hi ≤ w.heap.size) (hn : n ≤ 1000000000) (hm : ∀ g ∈ L, g.small 1000000000) (hs : ∀ g ∈ L, g.str) :
    Calls Tryz.prog 53 #[.pointer (some ⟨p, o, none⟩)] w fun e w' => e = .returned (.bool v) ∧ Below w.heap.size w w' := by
  have hl := Lib.hid hr.1
  have e1 := Lib.hid (fun (h : inB u 16 16384 = false) => hv.trans (set_f1 (s := ⟨u, L⟩) h))
  have e2 := Lib.hid (fun (h : 40 < n) => hv.trans (set_f2 (s := ⟨u, L⟩) (by show 40 < L.length; rw [hl.out]; exact h)))
  have e3 := Lib.hid (fun (k : Nat) (h : k < n) (h1 : glAt L k = false) => hv.trans (set_f3 (s := ⟨u, L⟩) (by show k < L.length; rw [hl.out]; exact h) h1))
  have e4 := Lib.hid (fun (h1 : inB u 16 16384 = true) (h2 : n ≤ 40) (h3 : (List.range n).all (glAt L) = true) => show v = decide ((order (tgts L)).length = n) from by
    have := hv.trans (set_eq (s := ⟨u, L⟩) h1 (by show L.length ≤ 40; rw [hl.out]; exact h2) (by show (List.range L.length).all (glAt L) = true; rw [hl.out]; exact h3))
    simpa only [hl.out] using this)
  replace hv := Lib.hid hv
  replace hr := Lib.hid hr
  replace hm := Lib.hid hm
  replace hs := Lib.hid hs
  cases t0 : inB u 16 16384
  · have hvf := e1.out t0
    subst hvf
    go_enter Tryz.func53, Tryz.ntmps53
    go_wp2_with (go_at_call 105; refine (l00In_any _ _ _ _).mono ?_; rintro e w' ⟨rfl, rfl⟩)
    go_ret
    exact ⟨rfl, Below.refl _ _⟩
  by_cases h40 : n ≤ 40
  rotate_left
  · have hvf := e2.out (by omega)
    subst hvf
    go_enter Tryz.func53, Tryz.ntmps53
    go_wp2_with (go_at_call 105; refine (l00In_any _ _ _ _).mono ?_; rintro e w' ⟨rfl, rfl⟩)
    go_ret
    exact ⟨rfl, Below.refl _ _⟩
  replace e4 := Lib.hid (e4.out t0 h40)
  clear e1 e2
  go_enter Tryz.func53, Tryz.ntmps53
  go_wp2_with (go_at_call 105; refine (l00In_any _ _ _ _).mono ?_; rintro e w' ⟨rfl, rfl⟩)
  clear t0 k0
  go_loopw [3] (fun i wr => ∃ k : Nat, i = .int .i64 k ∧ k ≤ n ∧ (List.range k).all (glAt L) = true ∧ Below w.heap.size w wr) (fun i wr => n - (intOf i).toNat)
  case atStart => exact ⟨0, rfl, Nat.zero_le _, rfl, Below.refl _ _⟩
  case round =>
    obtain ⟨k, rfl, hk, hall, hbel⟩ := hrel
    replace hall := Lib.hid hall
    have hsz := hbel.size
    have hpr : p < wr.heap.size := by omega
    have kw := (hbel.cell (p := ⟨p, o + 1, none⟩) hp0).trans k1
    by_cases hlt : k < n
    · obtain ⟨b1, f1, d, hh, rfl, hb0, hb1, hja, hcs, hrg⟩ := gs_at (hr.out.frame good_glyph (Below.sameB hbel hhi)) hlt
      have hb1w : b1 < wr.heap.size := by omega
      obtain ⟨t, ht⟩ : ∃ t, t = glyphOk d := ⟨_, rfl⟩
      have hgm := hm.out d (List.mem_of_getElem? hja)
      have hgs := hs.out d (List.mem_of_getElem? hja)
      have hc := Lib.hid (l17Glyph_any b1 (f1 + k * 7) d hh t ht lo hi wr hb1w hcs hrg (by omega) hgm hgs)
      have hno := Lib.hid (fun (h : glAt L k = false) => e3.out k hlt h)
      have hst := Lib.hid (fun (h : glAt L k = true) => range_step hall.out h)
      have hat := Lib.hid (glAt_eq hja)
      have hki : (0 : Int) ≤ (k : Int) ∧ (k : Int) < (n : Int) := by omega
      replace ht := Lib.hid ht
      replace hcs := Lib.hid hcs
      replace hja := Lib.hid hja
      replace hrg := Lib.hid hrg
      clear hgm hgs hb0 hb1 hall
      go_wp2_with fail
      refine hc.out.mono ?_
      rintro e w1 ⟨rfl, hb1⟩
      have hbel1 := hbel.trans (hb1.mono hsz)
      have kw1 := (hb1.cell (p := ⟨p, o + 1, none⟩) hpr).trans kw
      have hs1 := hb1.size
      have hpr1 : p < w1.heap.size := by omega
      have hcs1 := Lib.hid (fun i u hu => (hb1.cell (p := ⟨b1, f1 + k * 7 + i, none⟩) hb1w).trans (hcs.out i u hu))
      clear hbel kw hc hcs
      cases t with
      | false =>
        have hvf := hno.out (by rw [hat.out, ht.out.symm]; rfl)
        subst hvf
        go_wp2_with fail
        go_ret
        exact ⟨rfl, hbel1⟩
      | true =>
        have hat' := Lib.hid (show glAt L k = glFree (L.take k) d by rw [hat.out, ht.out.symm]; rfl)
        clear hat
        go_wp2_with fail
        obtain ⟨wo, rfl⟩ : ∃ wo : World, wo = wr := ⟨_, rfl⟩
        go_loopw [4] (fun i wq => ∃ j : Nat, i = .int .i64 j ∧ j ≤ k ∧ glFree (L.take j) d = true ∧ Below w1.heap.size w1 wq) (fun i wq => k - (intOf i).toNat)
        case atStart => exact ⟨0, rfl, Nat.zero_le _, rfl, Below.refl _ _⟩
        case round =>
          obtain ⟨j, rfl, hj, hfr, hbq⟩ := hrel
          replace hfr := Lib.hid hfr
          have hsq := hbq.size
          have hbel2 := hbel1.trans (hbq.mono hbel1.size)
          have kq := (hbq.cell (p := ⟨p, o + 1, none⟩) hpr1).trans kw1
          have hpq : p < wr.heap.size := by omega
          have hbwq : b1 < wr.heap.size := by omega
          by_cases hjl : j < k
          · obtain ⟨b2, f2, d2, hh2, hA, _, _, hjb, hcs2, _⟩ := gs_at (hr.out.frame good_glyph (Below.sameB hbel2 hhi)) (j := j) (by omega)
            injection hA with hA
            injection hA with hA1 hA2
            subst hA1 hA2
            have hcq := fun i u hu => (hbq.cell (p := ⟨b1, f1 + k * 7 + i, none⟩) (by show b1 < w1.heap.size; omega)).trans (hcs1.out i u hu)
            obtain ⟨t2, ht2⟩ : ∃ t, t = clash d2 d := ⟨_, rfl⟩
            have hc2 := Lib.hid (fun dr os => Calls.regrown_of (l17Clash_any b1 (f1 + j * 7) b1 (f1 + k * 7) d2 d hh2 hh t2 ht2 (Go.Sort.grow (redrawn wr dr) os) (fun i u hu => cell_regrown (hcs2 i u hu) dr os) (fun i u hu => cell_regrown (hcq i u hu) dr os)))
            have hji : (0 : Int) ≤ (j : Int) ∧ (j : Int) < (n : Int) := by omega
            have kg : ∀ dr os, (Go.Sort.grow (redrawn wr dr) os).cell? ⟨p, o + 1, none⟩ = some (.slice (some ⟨b1, f1, none⟩) n c) := cell_regrown kq
            have hn2 := Lib.hid (fun (h : clash d2 d = true) => glFree_no (a := d) hjl hjb h)
            have hs2 := Lib.hid (fun (h : clash d2 d = false) => glFree_step hfr.out hjb h)
            replace ht2 := Lib.hid ht2
            clear hcs2 hcq hjb kq
            go_wp2_with fail
            refine wp_region_quiet_below (by kernel_rfl) (by kernel_rfl) ?_
            repeat (go_big_quiet_step (exact hc2.out _ _))
            refine wpQuiet_nil ?_
            intro _ hw'
            obtain ⟨⟨dq, osq⟩, hw''⟩ := hw'
            subst hw''
            have hb3 := hbq.trans ((below_regrown wr dq osq).mono hsq)
            generalize Go.Sort.grow (redrawn wr dq) osq = w3 at hb3 ⊢
            clear kg
            cases t2 with
            | true =>
              have hvf := hno.out (by rw [hat'.out]; exact hn2.out ht2.out.symm)
              subst hvf
              go_wp2_with fail
              go_ret
              exact ⟨rfl, hbel1.trans (hb3.mono hbel1.size)⟩
            | false =>
              go_wp2_with fail
              go_roundw
              case rel => exact ⟨j + 1, by go_num, by omega, hs2.out ht2.out.symm, hb3⟩
              case measure => simp [intOf]; omega
          · have hjk : j = k := by omega
            have hst' := Lib.hid (hst.out (by rw [hat'.out, ← hjk]; exact hfr.out))
            replace hjk := Lib.hid hjk
            go_wp2_with fail
            go_roundw
            case rel => exact ⟨k + 1, by go_num, by omega, hst'.out, hbel2⟩
            case measure => simp [intOf]; omega
    · have hkn : k = n := by omega
      have hall' := Lib.hid (show (List.range n).all (glAt L) = true by rw [← hkn]; exact hall.out)
      have hvt := Lib.hid (e4.out hall'.out)
      have hps := Lib.hid (show ∀ g ∈ L, g.parts.length ≤ 6 from fun g hg => (glyph_is (glOk_all hl.out hall'.out g hg)).2.1)
      replace hkn := Lib.hid hkn
      obtain ⟨m, hmo⟩ : ∃ m, m = (order (tgts L)).length := ⟨_, rfl⟩
      have hco := Lib.hid (fun (W : World) (hB : Below w.heap.size w W) => l17Order_any p o A n c lo hi L W (Nat.lt_of_lt_of_le hp0 hB.size) ((hB.cell (p := ⟨p, o + 1, none⟩) hp0).trans k1) (hr.out.frame good_glyph (Below.sameB hB hhi)) (Nat.le_trans hhi hB.size) h40 hps.out)
      rw [← hmo] at hco
      rw [← hmo] at hvt
      replace hmo := Lib.hid hmo
      by_cases em : m = n
      all_goals
        have gm := Lib.hid (show ((m : Int) == (n : Int)) = decide (m = n) from by rw [Bool.eq_iff_iff]; simp; omega)
        have hvv : v = _ := hvt.out.trans (by first | exact decide_eq_true em | exact decide_eq_false em)
        replace gm := Lib.hid (gm.out.trans (by first | exact decide_eq_true em | exact decide_eq_false em))
        subst hvv
        replace em := Lib.hid em
        go_wp2_with fail
        go_region_held3 (fun w' => w'.cell? ⟨p, o + 1, none⟩ = some (.slice A n c)) (first | exact kw | exact kw2) (first | (go_at_call 108; (with_reducible refine (hco.out _ ?_).mono ?_); exact hbel.drew; rintro e w2 ⟨A2, c2, rfl, _, hb2⟩; have hB2 := hbel.drew.trans (hb2.mono hsz); have kw2 : w2.cell? ⟨p, o + 1, none⟩ = some (.slice A n c) := (hb2.cell (p := ⟨p, o + 1, none⟩) hpr).trans kw; clear hb2))
        go_wp2_with fail
        go_ret
        first | exact ⟨rfl, hB2⟩ | exact ⟨ret_bool gm.out, hB2⟩
end Go.Proofs.YtfkidklpjiiclaaGreat

/- Regions, the rings along loops, the distance of both: the numbers alone. Conditions: as each states. -/
namespace Go.Proofs.YtfkidklpjiiclaaGreat
open Go.RowKit
set_option linter.unusedVariables false
set_option maxRecDepth 100000

abbrev Pnt := Int × Int
/-! ### edges -/
/-- the edges of a ring of some length, up to k -/
def edgesTo (L : List Pnt) (k : Nat) : List (Pnt × Pnt) := (List.range k).filterMap fun i => if ptAt L i = ptAt L ((i + 1) % L.length) then none else some (ptAt L i, ptAt L ((i + 1) % L.length))
def edgesL (L : List Pnt) : List (Pnt × Pnt) := edgesTo L L.length
theorem edgesTo_yes {L : List Pnt} {k : Nat} (h : ptAt L k ≠ ptAt L ((k + 1) % L.length)) : edgesTo L (k + 1) = edgesTo L k ++ [(ptAt L k, ptAt L ((k + 1) % L.length))] := by
  unfold edgesTo
  rw [List.range_succ, List.filterMap_append]
  simp [h]
theorem edgesTo_no {L : List Pnt} {k : Nat} (h : ptAt L k = ptAt L ((k + 1) % L.length)) : edgesTo L (k + 1) = edgesTo L k := by
  unfold edgesTo
  rw [List.range_succ, List.filterMap_append]
  simp [h]
theorem edgesTo_len (L : List Pnt) (k : Nat) : (edgesTo L k).length ≤ k := by
  unfold edgesTo
  refine Nat.le_trans (List.length_filterMap_le _ _) ?_
  simp
/-- how many edges some rings have -/
def edgeN (Rs : List (List Pnt)) : Nat := (Rs.map fun L => (edgesL L).length).sum
/-- a region is valid -/
def regOk (Rs : List (List Pnt)) : Bool := decide (Rs.length ≤ 40) && Rs.all pathOk && decide (edgeN Rs ≤ 400)
theorem regOk_many {Rs : List (List Pnt)} (h : 40 < Rs.length) : regOk Rs = false := by
  unfold regOk
  rw [decide_eq_false (by omega)]; rfl
theorem regOk_bad {Rs : List (List Pnt)} {L : List Pnt} (hL : L ∈ Rs) (h : pathOk L = false) : regOk Rs = false := by
  have : Rs.all pathOk = false := List.all_eq_false.2 ⟨L, hL, by simp [h]⟩
  unfold regOk
  rw [this]; simp
theorem regOk_end {Rs : List (List Pnt)} (h1 : Rs.length ≤ 40) (h2 : ∀ L ∈ Rs, pathOk L = true) : regOk Rs = decide (edgeN Rs ≤ 400) := by
  unfold regOk
  rw [decide_eq_true h1, List.all_eq_true.2 h2]; rfl

/-! ### the knots of a loop with those between -/
/-! ### segments -/
/-- the points along the curve of a segment, but the last -/
def curvL (q : Qd) : Option (List Pnt) := match lvl (bendQ q) with | none => none | some l => some (flatL q (2 ^ l)).dropLast
/-! ### the distance of a region and an outline -/
end Go.Proofs.YtfkidklpjiiclaaGreat

