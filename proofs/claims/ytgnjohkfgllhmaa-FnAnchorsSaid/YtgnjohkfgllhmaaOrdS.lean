/- The order in which parts come first: the reference's walk. Conditions: as each states. -/
import Derived.BigQuiet
import Derived.Lib.QuietBelow
import Derived.Test.YtgnjohkfgllhmaaValGS
import Derived.Test.YtgnjohkfgllhmaaRec
namespace Go.Proofs.Ytgnjohkfgllhmaa
open Go.RowKit
set_option linter.unusedVariables false
set_option maxRecDepth 100000

theorem elemI64o : Elem Try.prog 129 2 1 8 := elem_mk (z := .int .i64 0) Try.underlying129 (by kernel_rfl) rfl (by omega)
def lenV : Value → Nat
  | .slice _ n _ => n
  | _ => 0
def bitV : Value → Nat
  | .bool true => 1
  | _ => 0

set_option maxHeartbeats 1000000 in
theorem l00Has_any (A : Option Addr) (n c lo hi : Nat) (L : List Int) (x : Int) (b : Bool) (hb : b = decide (x ∈ L)) (w : World) (hr : RdS 1 (FlatR intC) w lo hi A n L) (hhi : hi ≤ w.heap.size) (hn : n ≤ 1000000000) :
    Calls Try.prog 121 #[.slice A n c, .int .i64 x] w fun e w' => e = .returned (.bool b) ∧ w = w' := by
  replace hr := Lib.hid hr
  replace hb := Lib.hid hb
  go_enter Try.func121, Try.ntmps121
  go_wp2_with fail
  go_loop [5] (fun i => ∃ k : Nat, k ≤ n ∧ i = .int .i64 k ∧ ∀ y ∈ L.take k, y ≠ x) (fun i => n - (intOf i).toNat)
  case atStart => exact ⟨0, Nat.zero_le _, rfl, by simp⟩
  case round =>
    obtain ⟨k, hk, rfl, hall⟩ := hrel
    replace hall := Lib.hid hall
    by_cases hlt : k < n
    · obtain ⟨b1, o1, y0, rfl, _, hbw, hja, hcs⟩ := hr.out.at hlt
      have q0 := hcs 0 _ rfl
      simp only [Nat.mul_one, Nat.add_zero] at q0
      have hbw' : b1 < w.heap.size := by omega
      replace hja := Lib.hid hja
      clear hcs
      by_cases e0 : y0 = x
      · have hbt : b = true := by rw [hb.out, decide_eq_true_iff, ← e0]; exact List.mem_of_getElem? hja.out
        subst hbt
        have u0 : (y0 == x) = true := by simp [e0]
        replace e0 := Lib.hid e0
        go_wp2_with fail
        go_ret
        exact ⟨rfl, rfl⟩
      · have u0 : (y0 == x) = false := by simp [e0]
        replace e0 := Lib.hid e0
        go_wp2_with fail
        go_round
        case rel => exact ⟨k + 1, by omega, by go_num, by
          intro y hy
          rw [take_snoc_at hja.out, List.mem_append] at hy
          rcases hy with hy | hy
          · exact hall.out y hy
          · simp at hy; rw [hy]; exact e0.out⟩
        case measure => simp [intOf]; omega
    · have hkn : k = n := by omega
      have hbf : b = false := by
        rw [hb.out, decide_eq_false_iff_not]
        intro hm
        have := hall.out x (by rw [hkn, List.take_of_length_le (Nat.le_of_eq hr.out.1)]; exact hm)
        exact this rfl
      subst hbf
      replace hkn := Lib.hid hkn
      go_wp2_with fail
      go_ret
      exact ⟨rfl, rfl⟩

theorem flat_int_snoc (L : List Int) (x : Int) : (L ++ [x]).flatMap intC = L.flatMap intC ++ [.int .i64 x] := by rw [List.flatMap_append]; rfl
def inAll (out ps : List Int) : Bool := ps.all fun q => decide (q ∈ out)
theorem inAll_iff {out ps : List Int} : inAll out ps = true ↔ ∀ q ∈ ps, q ∈ out := by simp [inAll]
theorem inAll_step {ps out : List Int} {k : Nat} {p : Int} (h : ps[k]? = some p) : (inAll out (ps.take k) && decide (p ∈ out)) = inAll out (ps.take (k + 1)) := by
  rw [take_snoc_at h]; simp [inAll, List.all_append]

set_option maxHeartbeats 8000000 in
theorem l17Order_any (p o : Nat) (A : Option Addr) (n c lo hi : Nat) (L : List Gl) (w : World) (hp0 : p < w.heap.size) (hc1 : w.cell? ⟨p, o + 1, none⟩ = some (.slice A n c)) (hr : GsRd w lo hi A n L) (hhi : hi ≤ w.heap.size) (hn : n ≤ 40) (hps : ∀ g ∈ L, g.parts.length ≤ 6) :
    Calls Try.prog 84 #[.pointer (some ⟨p, o, none⟩)] w fun e w' => ∃ A' c', e = .returned (.slice A' (order (tgts L)).length c') ∧ w'.ownsRow w.heap.size 2 1 (.slice A' (order (tgts L)).length c') (order (tgts L)).length ((order (tgts L)).flatMap intC) ∧ Below w.heap.size w w' := by
  obtain ⟨T, hT⟩ : ∃ T, T = tgts L := ⟨_, rfl⟩
  rw [← hT]
  have hTl : Hid (T.length = n) := by show T.length = n; rw [hT, tgts_length, hr.1]
  have hTat := Lib.hid (fun (j : Nat) (g : Gl) (h : L[j]? = some g) => show T[j]? = some (g.parts.map (·.1)) from by rw [hT]; exact tgts_at h)
  replace hT := Lib.hid hT
  replace hr := Lib.hid hr
  replace hps := Lib.hid hps
  have hown0 : (w.alloc (.cells #[] 2)).ownsRow w.heap.size 2 1 (.slice (some ⟨w.heap.size, 0, none⟩) 0 0) 0 [] := World.ownsRow_made w #[] 0 (Nat.le_refl _) (Nat.zero_le _) rfl
  go_enter Try.func84, Try.ntmps84
  go_wp2_with fail
  go_loopw [3, 4] (fun v3 v4 wr => ∃ (out : List Int) (f : Nat) (m : Bool) (A' : Option Addr) (c' : Nat), v3 = .slice A' out.length c' ∧ v4 = .bool m ∧ wr.ownsRow w.heap.size 2 1 (.slice A' out.length c') out.length (out.flatMap intC) ∧ OrdTo T out f ∧ (m = false → order T = out) ∧ Below w.heap.size w wr) (fun v3 v4 wr => 2 * (41 - lenV v3) + bitV v4)
  case atStart => exact ⟨[], T.length + 1, true, _, 0, rfl, rfl, hown0, OrdTo.start T, (fun h => by cases h), (Below.refl _ _).alloc (Nat.le_refl _) _⟩
  case round =>
    clear hown0
    obtain ⟨out, f, m, A', c', rfl, rfl, ho, hto, hmf, hbel⟩ := hrel
    have hol : out.length ≤ 40 := by have := hto.ord.le; have := hTl.out; omega
    replace hto := Lib.hid hto
    replace hmf := Lib.hid hmf
    replace ho := Lib.hid ho
    cases m with
    | false =>
      have e := hmf.out rfl
      rw [e]
      go_wp2_with fail
      go_ret
      exact ⟨_, _, rfl, ho.out, hbel⟩
    | true =>
      go_wp2_with fail
      obtain ⟨wo, hwo⟩ : ∃ wo : World, wo = wr := ⟨_, rfl⟩
      replace hwo := Lib.hid hwo
      go_loopw [3, 4, 5] (fun v3 v4 v5 wr => ∃ (k : Nat) (m : Bool) (A' : Option Addr) (c' : Nat), v5 = .int .i64 k ∧ k ≤ n ∧ v3 = .slice A' (passK T out k).length c' ∧ v4 = .bool m ∧ (m = true ↔ out.length < (passK T out k).length) ∧ wr.ownsRow w.heap.size 2 1 (.slice A' (passK T out k).length c') (passK T out k).length ((passK T out k).flatMap intC) ∧ Below w.heap.size w wr) (fun v3 v4 v5 wr => n - (intOf v5).toNat)
      case atStart => exact ⟨0, false, A', c', rfl, Nat.zero_le _, rfl, rfl, by simp [passK], ho.out, hbel⟩
      case round =>
        clear hbel ho hwo
        obtain ⟨k, m, A2, c2, rfl, hk, rfl, rfl, hm, ho, hbel⟩ := hrel
        have hpl : (passK T out k).length ≤ 40 := by have := (hto.out.ord.passK k).le; have := hTl.out; omega
        have hple := Lib.hid (passK_le T out k)
        have hpord := Lib.hid (hto.out.ord.passK k)
        have hps1 : passK T out (k + 1) = stepO T (passK T out k) k := rfl
        replace hps1 := Lib.hid hps1
        generalize hpe0 : passK T out k = o2 at hpl hple hpord hps1 ho hm ⊢
        have hpe := Lib.hid hpe0.symm
        clear hpe0
        replace hm := Lib.hid hm
        have hsz := hbel.size
        have hpr : p < wr.heap.size := by omega
        have kc := (hbel.cell (p := ⟨p, o + 1, none⟩) hp0).trans hc1
        have hhas := Lib.hid (fun (x : Int) (b : Bool) (hb : b = decide (x ∈ o2)) => l00Has_any A2 o2.length c2 w.heap.size wr.heap.size o2 x b hb wr (rdS_own intC_len (by omega) ho rfl) (Nat.le_refl _) (by omega))
        by_cases hlt : k < n
        · obtain ⟨b1, f1, d, hh, rfl, hb0, hb1, hja, hcs, hrg⟩ := gs_at (hr.out.frame good_glyph (Below.sameB hbel hhi)) hlt
          have q4 := hcs 4 _ rfl
          have hb1w : b1 < wr.heap.size := by omega
          have hpn : hh.parts.n ≤ 6 := by rw [← hrg.2.1.1]; exact hps.out d (List.mem_of_getElem? hja)
          have hTk := Lib.hid (hTat.out k d hja)
          have hrp := Lib.hid hrg.2.1
          clear hcs hrg hja hb0 hb1
          have hki : (0 : Int) ≤ (k : Int) ∧ (k : Int) < (n : Int) := by omega
          by_cases hmem : (k : Int) ∈ o2
          · have hst : passK T out (k + 1) = o2 := by rw [hps1.out]; exact stepO_in hmem
            have hc := hhas.out k true (by simp [hmem])
            replace hc := Lib.hid hc
            clear hmem q4
            go_wp2_with (go_at_call 121; refine hc.out.mono ?_; rintro e w' ⟨rfl, rfl⟩)
            go_roundw
            case rel => exact ⟨k + 1, m, A2, c2, by go_num, by omega, by rw [hst], rfl, by rw [hst]; exact hm.out, by rw [hst]; exact ho, hbel⟩
            case measure => simp [intOf]; omega
          · have hc := hhas.out k false (by simp [hmem])
            replace hc := Lib.hid hc
            replace hmem := Lib.hid hmem
            go_wp2_with (go_at_call 121; refine hc.out.mono ?_; rintro e w' ⟨rfl, rfl⟩)
            go_loop [6, 7] (fun v6 v7 => ∃ (j : Nat), v7 = .int .i64 j ∧ j ≤ hh.parts.n ∧ v6 = .bool (inAll o2 ((d.parts.map (·.1)).take j))) (fun v6 v7 => hh.parts.n - (intOf v7).toNat)
            case atStart => exact ⟨0, rfl, Nat.zero_le _, rfl⟩
            case round =>
              obtain ⟨j, rfl, hj, rfl⟩ := hrel
              have hjs := Lib.hid (fun (p : Int) (h : (d.parts.map (·.1))[j]? = some p) => inAll_step (out := o2) h)
              by_cases hjl : j < hh.parts.n
              · obtain ⟨p1, g1, ⟨y0, y1, y2⟩, hA, _, hpw, hjb, hcs⟩ := hrp.out.at hjl
                have q0 := hcs 0 _ rfl
                simp only [Nat.add_zero] at q0
                rw [hA] at q4
                have hpw' : p1 < wr.heap.size := by omega
                have hji : (0 : Int) ≤ (j : Int) ∧ (j : Int) < (hh.parts.n : Int) := by omega
                have hs1 := Lib.hid (hjs.out y0 (by rw [List.getElem?_map, hjb]; rfl))
                generalize inAll o2 ((d.parts.map (·.1)).take j) = rd at hs1 ⊢
                have hc2 := Lib.hid (hhas.out y0)
                replace hA := Lib.hid hA
                clear hcs hjb hjs
                cases rd
                · go_wp2_with fail
                  go_round
                  case rel => exact ⟨j + 1, by go_num, by omega, by rw [← hs1.out]; rfl⟩
                  case measure => simp [intOf]; omega
                · obtain ⟨t, ht⟩ : ∃ t, t = decide (y0 ∈ o2) := ⟨_, rfl⟩
                  have hc3 := Lib.hid (hc2.out t ht)
                  replace ht := Lib.hid ht
                  go_wp2_with (go_at_call 121; refine hc3.out.mono ?_; rintro e w' ⟨rfl, rfl⟩)
                  go_round
                  case rel => exact ⟨j + 1, by go_num, by omega, by rw [← hs1.out, ht.out]; rfl⟩
                  case measure => simp [intOf]; omega
              · have hjn : j = hh.parts.n := by omega
                have hfull : (d.parts.map (·.1)).take j = d.parts.map (·.1) := List.take_of_length_le (by rw [List.length_map, hrp.out.1]; omega)
                rw [hfull]
                replace hfull := Lib.hid hfull
                replace hjn := Lib.hid hjn
                clear hjs
                cases hrd : inAll o2 (d.parts.map (·.1)) with
                | false =>
                  have hst : passK T out (k + 1) = o2 := by rw [hps1.out]; exact stepO_wait hTk.out (by rw [← inAll_iff, hrd]; simp)
                  replace hst := Lib.hid hst
                  replace hrd := Lib.hid hrd
                  go_wp2_with fail
                  go_roundw
                  case rel => exact ⟨k + 1, m, A2, c2, by go_num, by omega, by rw [hst.out], rfl, by rw [hst.out]; exact hm.out, by rw [hst.out]; exact ho, hbel⟩
                  case measure => simp [intOf]; omega
                | true =>
                  have hst : passK T out (k + 1) = o2 ++ [(k : Int)] := by rw [hps1.out]; exact stepO_add hTk.out hmem.out (inAll_iff.1 hrd)
                  replace hst := Lib.hid hst
                  replace hrd := Lib.hid hrd
                  replace ho := Lib.hid ho
                  go_wp2_with (at_builtin; refine wpApp rfl (.tmp 53) (.tmp 55) elemI64o rfl (base := w.heap.size) (v := .slice A2 o2.length c2) rfl (ho.out.alloc _) rfl (src_at (cs := [.int .i64 (k : Int)]) rfl (by simp [Value.oneCell']) (by simp)) (by omega) (by omega) (by simp; omega) (o2.length + 1) rfl ?_; intro A3 c3 w1 ho1 hb1; replace ho1 := Lib.hid ho1)
                  go_roundw
                  case rel =>
                    refine ⟨k + 1, true, A3, c3, by go_num, by omega, ?_, rfl, ?_, ?_, (hbel.alloc hsz _).trans hb1⟩
                    · rw [hst.out, List.length_append]; rfl
                    · rw [hst.out, List.length_append]; have := hple.out; simp; omega
                    · rw [hst.out, flat_int_snoc, List.length_append]; exact ho1.out
                  case measure => simp [intOf]; omega
        · have hkn : k = n := by omega
          have hTn : T.length = k := by rw [hTl.out, hkn]
          have hto' := Lib.hid hto.out
          have hfin : Hid (∃ f' : Nat, OrdTo T o2 f' ∧ (m = false → order T = o2)) := by
            have e2 : o2 = passK T out T.length := by rw [hTn, ← hpe.out]
            by_cases he : (passK T out T.length).length = out.length
            · have e3 := passK_eq he
              refine ⟨f, ?_, fun _ => ?_⟩
              · rw [e2, e3]; exact hto.out
              · rw [e2, e3]; exact hto.out.done he
            · obtain ⟨g, _, hg⟩ := hto.out.next he
              refine ⟨g, by rw [e2]; exact hg, fun hmf => ?_⟩
              have h1 := hple.out
              rw [← e2] at he
              have h3 := mt hm.out.2 (by rw [hmf]; simp)
              omega
          obtain ⟨f', h1, h2⟩ := hfin.out
          replace h1 := Lib.hid h1
          replace h2 := Lib.hid h2
          replace hkn := Lib.hid hkn
          replace hTn := Lib.hid hTn
          go_wp2_with fail
          go_roundw
          case rel => exact ⟨o2, f', m, A2, c2, rfl, rfl, ho, h1.out, h2.out, hbel⟩
          case measure =>
            have h3 := hple.out
            have h4 := hm.out
            cases m <;> simp [lenV, bitV] at h4 ⊢ <;> omega
end Go.Proofs.Ytgnjohkfgllhmaa
