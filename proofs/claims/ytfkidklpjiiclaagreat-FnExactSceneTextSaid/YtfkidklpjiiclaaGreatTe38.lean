/- The depths of glyphs: the program's walk. Conditions: as each states. -/
import Derived.Maps.OwnOps
import Derived.Maps.OwnSet
import Derived.Maps.Views
import Derived.BigQuiet
import Derived.StillTailTactics
import Derived.Test.YtfkidklpjiiclaaGreatTe29
import Derived.Test.YtfkidklpjiiclaaGreatTe01
namespace Go.Proofs.YtfkidklpjiiclaaGreat
open Go.RowKit
set_option linter.unusedVariables false
set_option maxRecDepth 100000

/-- block B holds the numbers D -/
def DepR (w : World) (lo B n : Nat) (D : Nat → Int) : Prop := ∃ ys : List Value, w.ownsRow lo 2 1 (.slice (some ⟨B, 0, none⟩) n n) n ys ∧ ∀ j, j < n → ys[j]? = some (.int .i64 (D j))
theorem DepR.at {w : World} {lo B n : Nat} {D : Nat → Int} (h : DepR w lo B n D) {j : Nat} (hj : j < n) : w.cell? ⟨B, j, none⟩ = some (.int .i64 (D j)) ∧ w.frozen? ⟨B, j, none⟩ = false ∧ B < w.heap.size := by
  obtain ⟨ys, h1, h2⟩ := h
  exact ⟨(h1.cellAt j (by omega)).trans (h2 j hj), h1.frozenAt j, (h1.lt B rfl).2⟩
theorem DepR.lt {w : World} {lo B n : Nat} {D : Nat → Int} (h : DepR w lo B n D) : B < w.heap.size := by
  obtain ⟨ys, h1, h2⟩ := h
  exact (h1.lt B rfl).2
theorem DepR.set {w : World} {lo B n : Nat} {D : Nat → Int} (h : DepR w lo B n D) {j : Nat} (hj : j < n) (x : Int) : DepR (w.setCell ⟨B, j, none⟩ (.int .i64 x)) lo B n (fun i => if i = j then x else D i) := by
  obtain ⟨ys, h1, h2⟩ := h
  have hl := h1.1
  refine ⟨_, (h1.stored j (.int .i64 x)).1, fun i hi => ?_⟩
  by_cases e : i = j
  · subst e
    rw [List.getElem?_set_self (by omega)]; simp
  · rw [List.getElem?_set_ne (by omega), h2 i hi]; simp [e]
theorem DepR.below {w w' : World} {lo B n : Nat} {D : Nat → Int} (h : DepR w lo B n D) (hb : Below w.heap.size w w') : DepR w' lo B n D := by
  obtain ⟨ys, h1, h2⟩ := h
  exact ⟨ys, own_below h1 hb, h2⟩
theorem DepR.alloc {w : World} {lo B n : Nat} {D : Nat → Int} (h : DepR w lo B n D) (o : Obj) : DepR (w.alloc o) lo B n D := by
  obtain ⟨ys, h1, h2⟩ := h
  exact ⟨ys, h1.alloc o, h2⟩
theorem DepR.congr {w : World} {lo B n : Nat} {D E : Nat → Int} (h : DepR w lo B n D) (e : ∀ j, j < n → D j = E j) : DepR w lo B n E := by
  obtain ⟨ys, h1, h2⟩ := h
  exact ⟨ys, h1, fun j hj => by rw [h2 j hj, e j hj]⟩
theorem depF_step {T : List (List Int)} {out : List Int} {k : Nat} {ps : List Int} (hps : T[k]? = some ps) (j : Nat) : depF T (out ++ [(k : Int)]) j = if j = k then dOf (depF T out) ps else depF T out j := by
  rw [depF_snoc, Int.toNat_natCast, hps]
  by_cases h : j = k
  · subst h; simp
  · rw [if_neg (by omega), if_neg h]

/-- how depthsOf ends -/
def DepEnd (T : List (List Int)) (n : Nat) (t : Bool) (w w' : World) (e : Ending) : Prop := ∃ A' m c', e = .returned (.tuple #[.slice A' m c', .bool t]) ∧ (t = true → A' = some ⟨w.heap.size, 0, none⟩ ∧ m = n ∧ c' = n ∧ DepR w' w.heap.size w.heap.size n (fun j => depF T (order T) j)) ∧ Below w.heap.size w w'
theorem DepEnd.yes {T : List (List Int)} {n : Nat} {w w' : World} (h : DepR w' w.heap.size w.heap.size n (fun j => depF T (order T) j)) (hb : Below w.heap.size w w') : DepEnd T n true w w' (.returned (.tuple #[.slice (some ⟨w.heap.size, 0, none⟩) n n, .bool true])) := ⟨_, _, _, rfl, fun _ => ⟨rfl, rfl, rfl, h⟩, hb⟩
theorem DepEnd.no {T : List (List Int)} {n : Nat} {w w' : World} (hb : Below w.heap.size w w') : DepEnd T n false w w' (.returned (.tuple #[.slice none 0 0, .bool false])) := ⟨_, _, _, rfl, (fun h => by cases h), hb⟩

set_option maxHeartbeats 8000000 in
theorem depthsOf_any (A : Option Addr) (n c lo hi : Nat) (L : List Gl) (t : Bool) (ht : t = decide ((order (tgts L)).length = n)) (w : World) (hr : GsRd w lo hi A n L) (hhi : hi ≤ w.heap.size) (hn : n ≤ 40) (hps : ∀ g ∈ L, g.parts.length ≤ 6 ∧ ∀ q ∈ g.parts, 0 ≤ q.1 ∧ q.1 < (n : Int)) :
    Calls Tryz.prog 67 #[.slice A n c] w fun e w' => DepEnd (tgts L) n t w w' e := by
  obtain ⟨i0, hi0, hz0, hs0, hby0⟩ := info_parts infoInt64
  obtain ⟨T, hT⟩ : ∃ T, T = tgts L := ⟨_, rfl⟩
  rw [← hT]
  rw [← hT] at ht
  have hTl : Hid (T.length = n) := by show T.length = n; rw [hT, tgts_length, hr.1]
  have hTat := Lib.hid (fun (j : Nat) (g : Gl) (h : L[j]? = some g) => show T[j]? = some (g.parts.map (·.1)) from by rw [hT]; exact tgts_at h)
  replace hT := Lib.hid hT
  replace ht := Lib.hid ht
  replace hr := Lib.hid hr
  replace hps := Lib.hid hps
  go_enter Tryz.func67, Tryz.ntmps67
  go_wp2_with (at_make; refine wpList_make_full _ rfl _ _ 151 rfl w.heap.size 2 i0 (.int .i64 0) 1 Tryz.underlying151 hi0 hz0 hs0 .i64 .i64 _ _ n rfl rfl rfl rfl (by rw [hby0]; omega) (by unfold maxLen; omega) (Nat.le_refl _) ?_; intro w0 hown0 hg0)
  have hb0 : Below w.heap.size w w0 := (Below.refl _ _).grown hg0 (Nat.le_refl _) (by simp)
  clear hg0
  go_loopw [18] (fun i wr => ∃ (k : Nat) (ys : List Value), i = .int .i64 k ∧ k ≤ n ∧ wr.ownsRow w.heap.size 2 1 (.slice (some ⟨w.heap.size, 0, none⟩) n n) n ys ∧ (∀ j, j < k → ys[j]? = some (.int .i64 (-1))) ∧ Below w.heap.size w wr) (fun i wr => n - (intOf i).toNat)
  case atStart => exact ⟨0, _, rfl, Nat.zero_le _, hown0, fun j hj => absurd hj (Nat.not_lt_zero j), hb0⟩
  case round =>
    clear hown0 hb0
    obtain ⟨k, ys, rfl, hk, ho, hys, hbel⟩ := hrel
    replace hys := Lib.hid hys
    have hX : w.heap.size < wr.heap.size := (ho.lt _ rfl).2
    by_cases hlt : k < n
    · have hl := ho.1
      have hc := ho.cellAt k (by omega)
      rw [List.getElem?_eq_getElem (by omega)] at hc
      have hf := ho.frozenAt k
      have hki : (0 : Int) ≤ (k : Int) ∧ (k : Int) < (n : Int) := by omega
      replace hl := Lib.hid hl
      generalize ys[k]'(by have := hl.out; omega) = v0 at hc
      replace ho := Lib.hid ho
      go_wp2_with fail
      go_roundw
      case rel =>
        refine ⟨k + 1, _, by go_num, by omega, (ho.out.stored k (.int .i64 (-1))).1, fun j hj => ?_, hbel.setCell (Nat.le_refl _) _⟩
        by_cases e : j = k
        · subst e
          rw [List.getElem?_set_self (by have := hl.out; omega)]
        · rw [List.getElem?_set_ne (by omega)]
          exact hys.out j (by omega)
      case measure => simp [intOf]; omega
    · have hkn : k = n := by omega
      have hdep := Lib.hid (show DepR wr w.heap.size w.heap.size n (fun j => depF T [] j) from ⟨ys, ho, fun j hj => by rw [hys.out j (by omega)]; rfl⟩)
      replace hkn := Lib.hid hkn
      clear ho hys
      go_wp2_with fail
      obtain ⟨wo, rfl⟩ : ∃ wo : World, wo = wr := ⟨_, rfl⟩
      go_loopw [6] (fun i wr => ∃ (out : List Int) (f : Nat), i = .int .i64 out.length ∧ DepR wr w.heap.size w.heap.size n (fun j => depF T out j) ∧ OrdTo T out f ∧ Below w.heap.size w wr) (fun i wr => n - (intOf i).toNat)
      case atStart => exact ⟨[], T.length + 1, rfl, hdep.out, OrdTo.start T, hbel⟩
      case round =>
        clear hdep hbel hX
        obtain ⟨out, f, rfl, hdep, hto, hbel⟩ := hrel
        have hol : out.length ≤ n := by have := hto.ord.le; have := hTl.out; omega
        replace hto := Lib.hid hto
        replace hdep := Lib.hid hdep
        by_cases hlo : out.length < n
        rotate_left
        · have hon : out.length = n := by omega
          have hfull := Lib.hid (hto.out.full (by rw [hTl.out, hon]))
          have htt : t = true := by rw [ht.out, hfull.out, hon]; simp
          subst htt
          have g0 : ¬ ((out.length : Int) < (n : Int)) := by omega
          replace hon := Lib.hid hon
          go_wp2_with fail
          go_ret2
          exact DepEnd.yes (by rw [hfull.out]; exact hdep.out) hbel
        · go_wp2_with fail
          obtain ⟨wo, rfl⟩ : ∃ wo : World, wo = wr := ⟨_, rfl⟩
          go_loopw [32, 6] (fun i kn wr => ∃ (k : Nat), i = .int .i64 k ∧ k ≤ n ∧ kn = .int .i64 (passK T out k).length ∧ DepR wr w.heap.size w.heap.size n (fun j => depF T (passK T out k) j) ∧ Below w.heap.size w wr) (fun i kn wr => n - (intOf i).toNat)
          case atStart => exact ⟨0, rfl, Nat.zero_le _, rfl, hdep.out, hbel⟩
          case round =>
            clear hdep hbel
            obtain ⟨k, rfl, hk, rfl, hdep, hbel⟩ := hrel
            have hpl : (passK T out k).length ≤ 40 := by have := (hto.out.ord.passK k).le; have := hTl.out; omega
            have hple := Lib.hid (passK_le T out k)
            have hpord := Lib.hid (hto.out.ord.passK k)
            have hps1 : passK T out (k + 1) = stepO T (passK T out k) k := rfl
            replace hps1 := Lib.hid hps1
            generalize hpe0 : passK T out k = o2 at hpl hple hpord hps1 hdep ⊢
            have hpe := Lib.hid hpe0.symm
            clear hpe0
            have hsz := hbel.size
            have hX := hdep.lt
            by_cases hlt : k < n
            · obtain ⟨b1, f1, d, hh, rfl, hb0, hb1, hja, hcs, hrg⟩ := gs_at (hr.out.frame good_glyph (Below.sameB hbel hhi)) hlt
              have q0 := hcs 0 _ rfl
              have q1 := hcs 1 _ rfl
              have q2 := hcs 2 _ rfl
              have q3 := hcs 3 _ rfl
              have q4 := hcs 4 _ rfl
              have q5 := hcs 5 _ rfl
              have q6 := hcs 6 _ rfl
              simp only [Nat.add_zero] at q0 q1 q2 q3 q4 q5 q6
              have hb1w : b1 < wr.heap.size := by omega
              obtain ⟨hpn0, hprng⟩ := hps.out d (List.mem_of_getElem? hja)
              have hpn : hh.parts.n ≤ 6 := by rw [← hrg.2.1.1]; exact hpn0
              replace hprng := Lib.hid hprng
              have hTk := Lib.hid (hTat.out k d hja)
              have hrp := Lib.hid hrg.2.1
              obtain ⟨x, hx⟩ : ∃ x, x = depF T o2 k := ⟨_, rfl⟩
              obtain ⟨dc, df, _⟩ := hdep.at hlt
              simp only [← hx] at dc
              have hxi : 0 ≤ x ↔ (k : Int) ∈ o2 := by rw [hx]; exact depF_iff
              replace hx := Lib.hid hx
              replace hxi := Lib.hid hxi
              replace hdep := Lib.hid hdep
              have hki : (0 : Int) ≤ (k : Int) ∧ (k : Int) < (n : Int) := by omega
              clear hcs hrg hja hb0 hb1 hpn0
              by_cases hx0 : 0 ≤ x
              · have hst := Lib.hid (show passK T out (k + 1) = o2 by rw [hps1.out]; exact stepO_in (hxi.out.1 hx0))
                go_wp2_with fail
                go_roundw
                case rel => exact ⟨k + 1, by go_num, by omega, by rw [hst.out], by rw [hst.out]; exact hdep.out.alloc _, hbel.alloc hsz _⟩
                case measure => simp [intOf]; omega
              · go_wp2_with fail
                obtain ⟨wi, rfl⟩ : ∃ wi : World, wi = wr := ⟨_, rfl⟩
                go_loopw [45, 10] (fun i dp wr => ∃ (j : Nat) (y : Int), i = .int .i64 j ∧ j ≤ hh.parts.n ∧ dp = .int .i64 y ∧ y = dOf (depF T o2) ((d.parts.map (·.1)).take j) ∧ inAll o2 ((d.parts.map (·.1)).take j) = true ∧ DepR wr w.heap.size w.heap.size n (fun j => depF T o2 j) ∧ Below w.heap.size w wr) (fun i dp wr => hh.parts.n - (intOf i).toNat)
                case atStart => exact ⟨0, 0, rfl, Nat.zero_le _, rfl, rfl, rfl, hdep.out.alloc _, hbel.alloc hsz _⟩
                case round =>
                  have hbel0 := Lib.hid hbel
                  clear hbel hsz hX dc df q0 q1 q2 q3 q4 q5 q6 hb1w
                  obtain ⟨j, y, rfl, hj, rfl, hy, hin, hdep, hbel⟩ := hrel
                  have hyb := dOf_bd (depF T o2) ((d.parts.map (·.1)).take j) 40 (by omega) (fun q _ => by have := (depF_bd T o2 q).2; omega)
                  rw [← hy] at hyb
                  obtain ⟨hy0, hy40⟩ := hyb
                  have hsz := hbel.size
                  have hX := hdep.lt
                  have hrp2 := hrp.out.frame (good_flat _) (w' := wr) (fun i h1 h2 => (Below.sameB hbel hhi i h1 h2).trans (Below.sameB hbel0.out hhi i h1 h2).symm)
                  replace hy := Lib.hid hy
                  replace hin := Lib.hid hin
                  by_cases hjl : j < hh.parts.n
                  · obtain ⟨p1, g1, ⟨y0, y1, y2⟩, hA, _, hpw, hjb, hcs⟩ := hrp2.at hjl
                    have q0 := hcs 0 _ rfl
                    have q1 := hcs 1 _ rfl
                    have q2 := hcs 2 _ rfl
                    simp only [Nat.add_zero] at q0 q1 q2
                    rw [hA]
                    have hpw' : p1 < wr.heap.size := by omega
                    have hji : (0 : Int) ≤ (j : Int) ∧ (j : Int) < (hh.parts.n : Int) := by omega
                    obtain ⟨hy00, hy0n⟩ := hprng.out _ (List.mem_of_getElem? hjb)
                    simp only at hy00 hy0n
                    have hjm : (d.parts.map (·.1))[j]? = some y0 := by rw [List.getElem?_map, hjb]; rfl
                    have hjs := Lib.hid (inAll_step (out := o2) hjm)
                    have hds := Lib.hid (show dOf (depF T o2) ((d.parts.map (·.1)).take (j + 1)) = max (dOf (depF T o2) ((d.parts.map (·.1)).take j)) (depF T o2 y0 + 1) by rw [take_snoc_at hjm, dOf_snoc])
                    obtain ⟨z, hz⟩ : ∃ z, z = depF T o2 y0 := ⟨_, rfl⟩
                    have hzb := depF_bd T o2 y0
                    rw [← hz] at hzb
                    obtain ⟨hz1, hz2⟩ := hzb
                    have hz40 : z ≤ 40 := by omega
                    obtain ⟨dc, _, _⟩ := hdep.at (j := y0.toNat) (by omega)
                    rw [show ((y0.toNat : Nat) : Int) = y0 by omega, ← hz] at dc
                    have hzi : 0 ≤ z ↔ y0 ∈ o2 := by rw [hz]; exact depF_iff
                    rw [← hz] at hds
                    replace hds := Lib.hid hds.out
                    have hno := Lib.hid (fun (h : ¬ 0 ≤ z) => show passK T out (k + 1) = o2 from by
                      rw [hps1.out]
                      exact stepO_wait hTk.out (fun hall => h (hzi.2 (hall y0 (List.mem_of_getElem? hjm)))))
                    replace hz := Lib.hid hz
                    replace hzi := Lib.hid hzi
                    replace hA := Lib.hid hA
                    replace hdep := Lib.hid hdep
                    clear hcs hjb hjm hz2
                    by_cases hz0 : 0 ≤ z
                    · have hin' := Lib.hid (show inAll o2 ((d.parts.map (·.1)).take (j + 1)) = true by rw [← hjs.out, hin.out]; simpa using hzi.out.1 hz0)
                      go_wp2_with fail
                      go_roundw
                      case rel => exact ⟨j + 1, _, by go_num, by omega, rfl, by rw [hds.out, ← hy.out] <;> (split <;> omega), hin'.out, hdep.out.alloc _, hbel.alloc hsz _⟩
                      case measure => simp [intOf]; omega
                    · have hst := Lib.hid (hno.out hz0)
                      go_wp2_with fail
                      go_roundw
                      case rel => exact ⟨k + 1, by go_num, by omega, by rw [hst.out], by rw [hst.out]; exact hdep.out.alloc _, hbel.alloc hsz _⟩
                      case measure => simp [intOf]; omega
                  · have hjn : j = hh.parts.n := by omega
                    have hfull : (d.parts.map (·.1)).take j = d.parts.map (·.1) := List.take_of_length_le (by rw [List.length_map, hrp.out.1]; omega)
                    have hy' := Lib.hid (hfull ▸ hy.out : y = dOf (depF T o2) (d.parts.map (·.1)))
                    have hin' := Lib.hid (hfull ▸ hin.out : inAll o2 (d.parts.map (·.1)) = true)
                    have hst : passK T out (k + 1) = o2 ++ [(k : Int)] := by rw [hps1.out]; exact stepO_add hTk.out (fun hm => by have := hxi.out.2 hm; omega) (inAll_iff.1 hin'.out)
                    replace hst := Lib.hid hst
                    obtain ⟨dc, df, _⟩ := hdep.at hlt
                    generalize depF T o2 ((k : Nat) : Int) = x1 at dc
                    have hds := Lib.hid (hdep.set hlt y)
                    replace hfull := Lib.hid hfull
                    replace hjn := Lib.hid hjn
                    clear hy hin
                    replace hdep := Lib.hid hdep
                    have hol2 : (0 : Int) ≤ (o2.length : Int) ∧ (o2.length : Int) ≤ 40 := by omega
                    go_wp2_with fail
                    go_roundw
                    case rel => exact ⟨k + 1, by go_num, by omega, by rw [hst.out, List.length_append]; rfl, by rw [hst.out]; exact hds.out.congr (fun i hi => by rw [depF_step hTk.out, ← hy'.out]), hbel.setCell (Nat.le_refl _) _⟩
                    case measure => simp [intOf]; omega
            · have hkn : k = n := by omega
              have hTn : T.length = k := by rw [hTl.out, hkn]
              have e2 : o2 = passK T out T.length := by rw [hTn, ← hpe.out]
              replace hkn := Lib.hid hkn
              replace hTn := Lib.hid hTn
              replace hdep := Lib.hid hdep
              by_cases he : o2.length = out.length
              · have hord := hto.out.done (by rw [← e2]; exact he)
                have htf : t = false := by rw [ht.out, hord, decide_eq_false_iff_not]; omega
                have g0 : ((o2.length : Int) == (out.length : Int)) = true := by rw [he]; simp
                subst htf
                replace e2 := Lib.hid e2
                replace he := Lib.hid he
                replace hord := Lib.hid hord
                go_wp2_with fail
                go_ret2
                exact DepEnd.no hbel
              · obtain ⟨g, _, hg⟩ := hto.out.next (by rw [← e2]; exact he)
                rw [← e2] at hg
                have g0 : ((o2.length : Int) == (out.length : Int)) = false := by simp; omega
                have hg2 := Lib.hid hg
                have hlt2 : out.length < o2.length := by have := hple.out; omega
                clear hg
                replace e2 := Lib.hid e2
                replace he := Lib.hid he
                go_wp2_with fail
                go_roundw
                case rel => exact ⟨o2, g, rfl, hdep.out, hg2.out, hbel⟩
                case measure => simp [intOf]; omega
end Go.Proofs.YtfkidklpjiiclaaGreat

/- A map of the call's own as a function from keys: made, looked up, stored. No program in sight. Conditions: none. -/
namespace Go.Proofs.YtfkidklpjiiclaaGreat
open Go.RowKit Go.Maps
set_option linter.unusedVariables false
set_option maxRecDepth 100000

/-- how an element reads -/
structure ElemRd (α : Type) where
  enc : α → Value
  dat : α → DataW Unit
  dec : Value → Option α
  de : ∀ a, dec (enc a) = some a
  inv : ∀ v a, dec v = some a → v = enc a
  inj : ∀ a b, dat a = dat b → a = b
def ElemRd.R {α : Type} (E : ElemRd α) (v : Value) : Option (DataW Unit × List MemPlace) := (E.dec v).map fun a => (E.dat a, [])
theorem ElemRd.R_mk {α : Type} (E : ElemRd α) (a : α) : E.R (E.enc a) = some (E.dat a, []) := by simp [ElemRd.R, E.de]
theorem ElemRd.R_inv {α : Type} (E : ElemRd α) {v : Value} {a : α} {ps : List MemPlace} (h : E.R v = some (E.dat a, ps)) : v = E.enc a := by
  unfold ElemRd.R at h
  cases hd : E.dec v with
  | none => rw [hd] at h; simp at h
  | some b =>
    rw [hd] at h
    simp at h
    rw [← E.inj _ _ h.1]
    exact E.inv v b hd
def boolE : ElemRd Bool := { enc := .bool, dat := fun x => .lit (.bool x), dec := fun v => match v with | .bool x => some x | _ => none, de := fun a => rfl, inv := fun v a h => by cases v <;> simp at h; rw [h], inj := fun a b h => by injection h with h; injection h }
/-- block b is a map that holds f -/
def MapF {α : Type} (E : ElemRd α) (w : World) (P : Program) (k : TypeId) (b n : Nat) (f : Lit → Option α) : Prop :=
  ∃ D : DataW Unit, w.ownsMap P k E.R b n D ∧ IsMap D ∧ ∀ kl z, D.atKey kl z = ((f kl).map E.dat).getD z
variable {α : Type} {E : ElemRd α} {w : World} {P : Program} {k : TypeId} {b n : Nat} {f : Lit → Option α}
theorem MapF.made (E : ElemRd α) (w : World) (P : Program) (k : TypeId) : MapF E (w.alloc (.map #[] 0)) P k w.heap.size 0 fun _ => none :=
  ⟨.map [], World.ownsMap_made w P k E.R, isMap_empty, fun kl z => rfl⟩
theorem MapF.kept {w' : World} {row : Option Nat} (h : MapF E w P k b n f) (hg : w.grownBy w' row) (hne : some b ≠ row) : MapF E w' P k b n f := by
  obtain ⟨D, h1, h2, h3⟩ := h
  exact ⟨D, h1.kept hg hne, h2, h3⟩
theorem MapF.same {w' : World} (h : MapF E w P k b n f) (hg : w'.heap[b]? = w.heap[b]?) : MapF E w' P k b n f := by
  obtain ⟨D, ⟨es, c, h0, hr⟩, h2, h3⟩ := h
  exact ⟨D, ⟨es, c, hg.trans h0, hr⟩, h2, h3⟩
theorem MapF.lt (h : MapF E w P k b n f) : b < w.heap.size := by
  obtain ⟨D, h1, h2, h3⟩ := h
  exact h1.lt
theorem MapF.below {w' : World} (h : MapF E w P k b n f) (hb : Below w.heap.size w w') : MapF E w' P k b n f := h.same (hb.block b h.lt)
theorem MapF.alloc (h : MapF E w P k b n f) (o : Obj) : MapF E (w.alloc o) P k b n f := h.same (Below.heap_alloc w o b h.lt)
theorem MapF.drew (h : MapF E w P k b n f) : MapF E w.drew P k b n f := h
theorem MapF.drewN (h : MapF E w P k b n f) (q : Nat) : MapF E (w.drewN q) P k b n f := h
theorem MapF.setCell (h : MapF E w P k b n f) {a : Addr} (ha : b ≠ a.block) (u : Value) : MapF E (w.setCell a u) P k b n f := h.same (Below.heap_setCell w a u b (by omega))
theorem MapF.mono {n' : Nat} (h : MapF E w P k b n f) (hn : n ≤ n') : MapF E w P k b n' f := by
  obtain ⟨D, h1, h2, h3⟩ := h
  exact ⟨D, h1.mono hn, h2, h3⟩
theorem MapF.congr {g : Lit → Option α} (h : MapF E w P k b n f) (hg : ∀ kl, f kl = g kl) : MapF E w P k b n g := by
  obtain ⟨D, h1, h2, h3⟩ := h
  exact ⟨D, h1, h2, fun kl z => by rw [h3, hg]⟩
theorem MapF.has (h : MapF E w P k b n f) (kl : Lit) : ∀ D : DataW Unit, (∀ kl z, D.atKey kl z = ((f kl).map E.dat).getD z) → Maps.has D kl = (f kl).isSome := by
  intro D h3
  cases hf : f kl with
  | none => exact has_false_of_atKey fun z => by rw [h3, hf]; rfl
  | some a => exact has_true_of_atKey (y := E.dat a) fun z => by rw [h3, hf]; rfl
def putF (f : Lit → Option α) (kl : Lit) (a : α) : Lit → Option α := fun k' => if k'.sameKey kl then some a else f k'
theorem putF_same (f : Lit → Option α) {kl : Lit} (hk : WideAt.IsKeyLit kl) (a : α) : putF f kl a kl = some a := if_pos (WideAt.sameKey_self hk)
theorem putF_ne (f : Lit → Option α) {kl k' : Lit} (h : k' ≠ kl) (a : α) : putF f kl a k' = f k' := if_neg (by rw [sameKey_ne h]; simp)

theorem run_lookup_f (t : TypeId) (e : TypeId) (K : Keyed P k) (ht : P.underlying t = some (.map k e)) (z0 : α) (hz : (zeroValue e).run P w = .ok (E.enc z0) w) (hown : MapF E w P k b n f) {key : Value} {kl : Lit} (hkey : keyOf P k key = some kl) (r : α) (hr : (f kl).getD z0 = r) :
    (Instr.lookup t (.map (some b)) key false).run P w = .ok (E.enc r) w := by
  obtain ⟨D, h1, h2, h3⟩ := hown
  obtain ⟨v, ps, hrun, hv⟩ := h1.lookup K ht hz (E.R_mk z0) hkey
  rw [h3] at hv
  have e1 : ((f kl).map E.dat).getD (E.dat z0) = E.dat ((f kl).getD z0) := by cases f kl <;> rfl
  rw [e1] at hv
  have hve := E.R_inv hv
  rw [hr] at hve
  rw [hrun, hve]
theorem run_mapUpdate_f (t : TypeId) (e : TypeId) (K : Keyed P k) (ht : P.underlying t = some (.map k e)) (hown : MapF E w P k b n f) (hn : n < maxLen) {key : Value} {kl : Lit} (hkey : keyOf P k key = some kl) (r : α) {v : Value} (hv : v = E.enc r) :
    ∃ w', (Instr.mapUpdate t (.map (some b)) key v).run P w = .ok () w' ∧ MapF E w' P k b (n + 1) (putF f kl r) ∧ w.grownBy w' (some b) := by
  obtain ⟨D, h1, h2, h3⟩ := hown
  subst hv
  obtain ⟨w', hrun, r1, r2⟩ := h1.update K ht hn hkey (E.R_mk r)
  refine ⟨w', hrun, ⟨_, r1, h2.put _ _, fun k' z => ?_⟩, r2⟩
  by_cases hk' : k' = kl
  · subst hk'
    rw [atKey_put_same h2 (K.key hkey), putF_same f (K.key hkey)]; rfl
  · rw [atKey_put_other hk', h3, putF_ne f hk']
theorem grown_cell {w w' : World} {b : Nat} (hg : w.grownBy w' (some b)) {x o : Nat} (hx : x < w.heap.size) (hne : x ≠ b) : w'.cell? ⟨x, o, none⟩ = w.cell? ⟨x, o, none⟩ :=
  World.cell?_of_block (w := w) (hg.block x hx (by simpa using hne))
end Go.Proofs.YtfkidklpjiiclaaGreat

/- Whether a set of glyphs is valid: the program's side. Conditions: as each states. -/
namespace Go.Proofs.YtfkidklpjiiclaaGreat
open Go.RowKit Go.Maps
set_option linter.unusedVariables false
set_option maxRecDepth 100000

theorem take_snocG {α : Type} {l : List α} {t : Nat} {x : α} (h : l[t]? = some x) : l.take (t + 1) = l.take t ++ [x] := by
  have hl := (List.getElem?_eq_some_iff.1 h).1
  rw [List.take_succ_eq_append_getElem hl]
  rw [List.getElem?_eq_getElem hl] at h
  injection h with h; rw [h]
theorem gs_atc {w : World} {lo hi : Nat} {A : Option Addr} {n : Nat} {L : List Gl} (h : GsRc w lo hi A n L) {j : Nat} (hj : j < n) :
    ∃ b off d hh, A = some ⟨b, off, none⟩ ∧ lo ≤ b ∧ b < hi ∧ L[j]? = some d ∧ (∀ i u, (glC d hh)[i]? = some u → w.cell? ⟨b, off + j * 7 + i, none⟩ = some u) ∧ GlRd w lo hi d hh ∧ hh.anchors.n ≤ hh.anchors.c := by
  obtain ⟨hl, h⟩ := h
  obtain ⟨b, off, rfl, h1, h2, h3⟩ := h (by omega)
  have hja : L[j]? = some (L[j]'(by omega)) := List.getElem?_eq_getElem (by omega)
  obtain ⟨es, e1, e2, hh, rfl, hr, hc⟩ := h3 j _ hja
  exact ⟨b, off, _, hh, rfl, h1, h2, hja, e2, hr, hc⟩
theorem keyS : Keyed Tryz.prog 9 := string_keyed Tryz.underlying9
theorem keyI : Keyed Tryz.prog 2 := int_keyed Tryz.underlying2
theorem zeroB (w : World) : (zeroValue 4).run Tryz.prog w = .ok (.bool false) w := by kernel_rfl
/-- the names and the codes of the glyphs so far -/
def NmF (f : Lit → Option Bool) (L : List Gl) : Prop := ∀ s : ByteArray, (f (.string s.data.toList)).getD false = L.any fun g => decide (g.name = s)
def CdF (f : Lit → Option Bool) (L : List Gl) : Prop := ∀ c : Int, (f (.int .i64 c)).getD false = L.any fun g => decide (g.code = c)
theorem NmF.nil : NmF (fun _ => none) [] := fun s => rfl
theorem CdF.nil : CdF (fun _ => none) [] := fun s => rfl
theorem str_lit {a b : ByteArray} : Lit.string a.data.toList = Lit.string b.data.toList ↔ a = b := by
  constructor
  · intro h
    injection h with h
    cases a; cases b; simp at h; rw [h]
  · rintro rfl; rfl
theorem NmF.put {f : Lit → Option Bool} {L : List Gl} (h : NmF f L) (g : Gl) : NmF (putF f (.string g.name.data.toList) true) (L ++ [g]) := fun s => by
  by_cases e : s = g.name
  · subst e
    rw [putF_same _ (by trivial)]; simp
  · rw [putF_ne _ (fun h => e (str_lit.1 h)), h s, List.any_append]
    simp [Ne.symm e]
theorem CdF.put {f : Lit → Option Bool} {L : List Gl} (h : CdF f L) (g : Gl) : CdF (putF f (.int .i64 g.code) true) (L ++ [g]) := fun c => by
  by_cases e : c = g.code
  · subst e
    rw [putF_same _ (by trivial)]; simp
  · rw [putF_ne _ (fun h => e (by injection h)), h c, List.any_append]
    simp [Ne.symm e]
theorem glFree_maps {L : List Gl} {g : Gl} {tn tc : Bool} (hn : tn = L.any fun b => decide (b.name = g.name)) (hc : tc = L.any fun b => decide (b.code = g.code)) : glFree L g = (!tn && !(decide (0 ≤ g.code) && tc)) := by
  rw [hn, hc]
  clear hn hc
  induction L with
  | nil => simp [glFree]
  | cons a L ih =>
    have e : glFree (a :: L) g = (!clash a g && glFree L g) := by simp [glFree]
    rw [e, ih, List.any_cons, List.any_cons]
    unfold clash
    by_cases h1 : a.name = g.name <;> by_cases h2 : a.code = g.code <;> by_cases h3 : 0 ≤ g.code <;> by_cases h4 : 0 ≤ a.code <;> simp [h1, h2, h3, h4] <;> omega

theorem glyph_code {g : Gl} (h : glyphOk g = true) : -1 ≤ g.code ∧ g.code ≤ 65535 := by
  cases h2 : inB g.code (-1) 65535
  · rw [glyph_f2 h2] at h; cases h
  · exact inB_iff.1 h2

set_option maxHeartbeats 8000000 in
theorem implOk_any (u : Int) (A : Option Addr) (n c lo hi : Nat) (L : List Gl) (v : Bool) (hv : v = setOk ⟨u, L⟩) (w : World) (hr : GsRc w lo hi A n L) (hhi : hi ≤ w.heap.size) (hn : n ≤ 1000000000) (hm : ∀ g ∈ L, g.small 1000000000) (hs : ∀ g ∈ L, g.str) :
    Calls Tryz.prog 26 #[.agg #[.int .i64 u, .slice A n c]] w fun e w' => e = .returned (.bool v) ∧ Below w.heap.size w w' := by
  have hl := Lib.hid hr.1
  have e1 := Lib.hid (fun (h : inB u 16 16384 = false) => hv.trans (set_f1 (s := ⟨u, L⟩) h))
  have e2 := Lib.hid (fun (h : 40 < n) => hv.trans (set_f2 (s := ⟨u, L⟩) (by show 40 < L.length; rw [hl.out]; exact h)))
  have e3 := Lib.hid (fun (k : Nat) (h : k < n) (h1 : glAt L k = false) => hv.trans (set_f3 (s := ⟨u, L⟩) (by show k < L.length; rw [hl.out]; exact h) h1))
  have e5 := Lib.hid (fun (k : Nat) (g : Gl) (q : Part) (hg : L[k]? = some g) (hq : q ∈ g.parts) (h : (n : Int) ≤ q.1) => hv.trans (set_f5 (s := ⟨u, L⟩) hg hq (by show (L.length : Int) ≤ q.1; rw [hl.out]; exact h)))
  have e4 := Lib.hid (fun (h1 : inB u 16 16384 = true) (h2 : n ≤ 40) (h3 : (List.range n).all (glAt L) = true) => show v = decide ((order (tgts L)).length = n) from by
    have := hv.trans (set_eq (s := ⟨u, L⟩) h1 (by show L.length ≤ 40; rw [hl.out]; exact h2) (by show (List.range L.length).all (glAt L) = true; rw [hl.out]; exact h3))
    simpa only [hl.out] using this)
  have hB0 : Below w.heap.size w (w.alloc (.cells #[.int .i64 u, .slice A n c] 51 (0, 0))) := Go.Joins.below_alloc1 _ _
  replace hv := Lib.hid hv
  replace hr := Lib.hid hr
  replace hm := Lib.hid hm
  replace hs := Lib.hid hs
  by_cases b1 : 16 ≤ u
  rotate_left
  · have hvf := e1.out (by simp [inB, b1])
    subst hvf
    go_enter Tryz.func26, Tryz.ntmps26
    go_wp2_with fail
    go_ret
    exact ⟨rfl, hB0⟩
  by_cases b2 : u ≤ 16384
  rotate_left
  · have hvf := e1.out (by simp [inB, b2])
    subst hvf
    go_enter Tryz.func26, Tryz.ntmps26
    go_wp2_with fail
    go_ret
    exact ⟨rfl, hB0⟩
  by_cases h40 : n ≤ 40
  rotate_left
  · have hvf := e2.out (by omega)
    subst hvf
    go_enter Tryz.func26, Tryz.ntmps26
    go_wp2_with fail
    go_ret
    exact ⟨rfl, hB0⟩
  replace e4 := Lib.hid (e4.out (inB_iff.2 ⟨b1, b2⟩) h40)
  clear e1 e2
  have hmm := fun (t : TypeId) (W : World) => run_makeMap (P := Tryz.prog) t W
  go_enter Tryz.func26, Tryz.ntmps26
  go_wp2_with fail
  have hnew := heap_new0 w (.cells #[.int .i64 u, .slice A n c] 51 (0, 0)) (.map #[] 0) (.map #[] 0)
  have hmap1 : MapF boolE (((w.alloc (.cells #[.int .i64 u, .slice A n c] 51 (0, 0))).alloc (.map #[] 0)).alloc (.map #[] 0)) Tryz.prog 9 (w.heap.size + 1) 0 (fun _ => none) := by
    have := (MapF.made boolE (w.alloc (.cells #[.int .i64 u, .slice A n c] 51 (0, 0))) Tryz.prog 9).alloc (.map #[] 0)
    simpa using this
  have hmap2 : MapF boolE (((w.alloc (.cells #[.int .i64 u, .slice A n c] 51 (0, 0))).alloc (.map #[] 0)).alloc (.map #[] 0)) Tryz.prog 2 (w.heap.size + 1 + 1) 0 (fun _ => none) := by
    have := MapF.made boolE ((w.alloc (.cells #[.int .i64 u, .slice A n c] 51 (0, 0))).alloc (.map #[] 0)) Tryz.prog 2
    simpa using this
  have hbx : (((w.alloc (.cells #[.int .i64 u, .slice A n c] 51 (0, 0))).alloc (.map #[] 0)).alloc (.map #[] 0)).cell? ⟨w.heap.size, 1, none⟩ = some (.slice A n c) := by rw [Go.Joins.cell_of_block hnew.1]; rfl
  have hB1 : Below w.heap.size w (((w.alloc (.cells #[.int .i64 u, .slice A n c] 51 (0, 0))).alloc (.map #[] 0)).alloc (.map #[] 0)) := (hB0.alloc hB0.size _).alloc (by simp; omega) _
  have hz1 : w.heap.size + 2 < (((w.alloc (.cells #[.int .i64 u, .slice A n c] 51 (0, 0))).alloc (.map #[] 0)).alloc (.map #[] 0)).heap.size := by simp
  clear hnew hB0 hmm
  generalize (((w.alloc (.cells #[.int .i64 u, .slice A n c] 51 (0, 0))).alloc (.map #[] 0)).alloc (.map #[] 0)) = W0 at hmap1 hmap2 hbx hB1 hz1 ⊢
  go_loopw [30] (fun i wr => ∃ (k : Nat) (f1 f2 : Lit → Option Bool), i = .int .i64 k ∧ k ≤ n ∧ MapF boolE wr Tryz.prog 9 (w.heap.size + 1) k f1 ∧ NmF f1 (L.take k) ∧ MapF boolE wr Tryz.prog 2 (w.heap.size + 1 + 1) k f2 ∧ CdF f2 (L.take k) ∧ (List.range k).all (glAt L) = true ∧ (∀ g ∈ L.take k, ∀ q ∈ g.parts, q.1 < (n : Int)) ∧ wr.cell? ⟨w.heap.size, 1, none⟩ = some (.slice A n c) ∧ Below w.heap.size w wr ∧ w.heap.size + 2 < wr.heap.size) (fun i wr => n - (intOf i).toNat)
  case atStart => exact ⟨0, _, _, rfl, Nat.zero_le _, hmap1, NmF.nil, hmap2, CdF.nil, rfl, by simp, hbx, hB1, hz1⟩
  case round =>
    clear hmap1 hmap2 hbx hB1 hz1
    obtain ⟨k, f1, f2, rfl, hk, hm1, hnm, hm2, hcd, hall, hpr, hbx, hbel, hz⟩ := hrel
    replace hm1 := Lib.hid hm1
    replace hm2 := Lib.hid hm2
    replace hnm := Lib.hid hnm
    replace hcd := Lib.hid hcd
    replace hall := Lib.hid hall
    replace hpr := Lib.hid hpr
    have hsz := hbel.size
    by_cases hlt : k < n
    · obtain ⟨b1, f0, d, hh, rfl, hb0, hb1, hja, hcs, hrg, hcap⟩ := gs_atc (hr.out.frame good_glyphc (Below.sameB hbel hhi)) hlt
      have q0 := hcs 0 _ rfl
      have q1 := hcs 1 _ rfl
      have q2 := hcs 2 _ rfl
      have q3 := hcs 3 _ rfl
      have q4 := hcs 4 _ rfl
      have q5 := hcs 5 _ rfl
      have q6 := hcs 6 _ rfl
      simp only [Nat.add_zero] at q0 q1 q2 q3 q4 q5 q6
      have hb1w : b1 < wr.heap.size := by omega
      obtain ⟨t, ht⟩ : ∃ t, t = glyphOk d := ⟨_, rfl⟩
      have hgs := hs.out d (List.mem_of_getElem? hja)
      have hc := Lib.hid (fun o => implValidG_any d hh t ht lo hi (wr.alloc o) (hrg.frame (SameB.alloc (SameB.refl _ _ _) (by omega) _)) (by simp; omega) (hm.out d (List.mem_of_getElem? hja)) hgs hcap)
      have hno := Lib.hid (fun (h : glAt L k = false) => e3.out k hlt h)
      have hst := Lib.hid (fun (h : glAt L k = true) => range_step hall.out h)
      have hat := Lib.hid (glAt_eq hja)
      have hrp := Lib.hid hrg.2.1
      replace ht := Lib.hid ht
      replace hja := Lib.hid hja
      replace hgs := Lib.hid hgs
      clear hcs hrg hcap hb0 hb1
      go_wp2_with fail
      refine (hc.out _).mono ?_
      rintro e w1 ⟨rfl, hb1⟩
      have hBn : Below w.heap.size w (wr.alloc (.cells #[.string d.name, .int .i64 d.code, .int .i64 d.adv, .slice hh.out.A hh.out.n hh.out.c, .slice hh.parts.A hh.parts.n hh.parts.c, .slice hh.anchors.A hh.anchors.n hh.anchors.c, .string d.hints] 58 (0, 0))) := hbel.alloc hsz _
      have hB1 := hBn.trans (hb1.mono hBn.size)
      have hs1 := hb1.size
      simp at hs1
      have y0 : w1.cell? ⟨wr.heap.size, 0, none⟩ = some (.string d.name) := (hb1.cell (by simp)).trans (by rw [Go.Joins.cell_of_block (heap_alloc_new wr _)]; rfl)
      have y1 : w1.cell? ⟨wr.heap.size, 1, none⟩ = some (.int .i64 d.code) := (hb1.cell (by simp)).trans (by rw [Go.Joins.cell_of_block (heap_alloc_new wr _)]; rfl)
      have y4 : w1.cell? ⟨wr.heap.size, 4, none⟩ = some (.slice hh.parts.A hh.parts.n hh.parts.c) := (hb1.cell (by simp)).trans (by rw [Go.Joins.cell_of_block (heap_alloc_new wr _)]; rfl)
      have hbx1 : w1.cell? ⟨w.heap.size, 1, none⟩ = some (.slice (some ⟨b1, f0, none⟩) n c) := (hb1.cell (by simp; omega)).trans (((Below.refl wr.heap.size wr).alloc (Nat.le_refl _) _ |>.cell (by show w.heap.size < wr.heap.size; omega)).trans hbx)
      have hm11 := Lib.hid ((hm1.out.alloc _).below hb1)
      have hm21 := Lib.hid ((hm2.out.alloc _).below hb1)
      clear q0 q1 q2 q3 q4 q5 q6 hc hb1 hbx hBn
      cases t with
      | false =>
        have hvf := hno.out (by rw [hat.out, ht.out.symm]; rfl)
        subst hvf
        go_wp2_with fail
        go_ret
        exact ⟨rfl, hB1⟩
      | true =>
        have hat' := Lib.hid (show glAt L k = glFree (L.take k) d by rw [hat.out, ht.out.symm]; rfl)
        obtain ⟨tn, htn⟩ : ∃ b, b = (L.take k).any fun g => decide (g.name = d.name) := ⟨_, rfl⟩
        obtain ⟨tc, htc⟩ : ∃ b, b = (L.take k).any fun g => decide (g.code = d.code) := ⟨_, rfl⟩
        have hfm := Lib.hid (glFree_maps htn htc)
        have hkn := Lib.hid ((hnm.out d.name).trans htn.symm)
        have hkc := Lib.hid ((hcd.out d.code).trans htc.symm)
        replace htn := Lib.hid htn
        replace htc := Lib.hid htc
        obtain ⟨hcl, hch⟩ := glyph_code ht.out.symm
        have hpn : hh.parts.n ≤ 6 := by rw [← hrp.out.1]; exact (glyph_is ht.out.symm).2.1
        have hwf : (Lit.int .i64 d.code).wf = true := WalkArith.wf_i64 (by omega)
        have hk1 := Lib.hid (Go.WideMaps.keyOf_string_mk Tryz.underlying9 hgs.out.1)
        have hk2 := Lib.hid (keyOf_int_mk Tryz.underlying2 hwf)
        have hr1 : (Instr.lookup 145 (.map (some (w.heap.size + 1))) (.string d.name) false).run Tryz.prog w1 = .ok (.bool tn) w1 := run_lookup_f _ 4 keyS Tryz.underlying145 false (zeroB w1) hm11.out hk1.out tn hkn.out
        have hr2 : (Instr.lookup 146 (.map (some (w.heap.size + 1 + 1))) (.int .i64 d.code) false).run Tryz.prog w1 = .ok (.bool tc) w1 := run_lookup_f _ 4 keyI Tryz.underlying146 false (zeroB w1) hm21.out hk2.out tc hkc.out
        replace hwf := Lib.hid hwf
        cases tn with
        | true =>
          have hvf := hno.out (by rw [hat'.out, hfm.out]; rfl)
          subst hvf
          go_wp2_with fail
          go_ret
          exact ⟨rfl, hB1⟩
        | false =>
          by_cases c0 : 0 ≤ d.code
          all_goals
            cases tc
            all_goals
              first
                | (have hvf := hno.out (by rw [hat'.out, hfm.out]; simp [c0]; done)
                   subst hvf
                   go_wp2_with fail
                   go_ret
                   exact ⟨rfl, hB1⟩)
                | (have hst' := Lib.hid (hst.out (by rw [hat'.out, hfm.out]; simp [c0]))
                   have hkm : k < maxLen := by unfold maxLen; omega
                   obtain ⟨w2, hu1, hm12, hg2⟩ := run_mapUpdate_f 145 4 keyS Tryz.underlying145 hm11.out.drew hkm hk1.out true (v := .bool true) rfl
                   obtain ⟨w3, hu2, hm23, hg3⟩ := run_mapUpdate_f 146 4 keyI Tryz.underlying146 (hm21.out.drew.kept hg2 (by simp)) hkm hk2.out true (v := .bool true) rfl
                   have z1 : w2.cell? ⟨wr.heap.size, 1, none⟩ = some (.int .i64 d.code) := (grown_cell hg2 (by show wr.heap.size < w1.heap.size; omega) (by omega)).trans y1
                   replace hm12 := Lib.hid hm12
                   replace hm23 := Lib.hid hm23
                   go_wp2_with fail
                   go_region
                   clear hr1 hr2 hu1 hu2
                   have hB2 : Below w.heap.size w w2 := Below.grown (w := w1.drew) hB1.drew hg2 (by show w.heap.size ≤ w1.heap.size; omega) (fun j hj => by cases hj; omega)
                   have hs2 : w1.heap.size ≤ w2.heap.size := hg2.size
                   have hB3 : Below w.heap.size w w3 := hB2.grown hg3 (by omega) (fun j hj => by cases hj; omega)
                   have hs3 : w2.heap.size ≤ w3.heap.size := hg3.size
                   have y43 : w3.cell? ⟨wr.heap.size, 4, none⟩ = some (.slice hh.parts.A hh.parts.n hh.parts.c) := (grown_cell hg3 (by omega) (by omega)).trans ((grown_cell hg2 (by show wr.heap.size < w1.heap.size; omega) (by omega)).trans y4)
                   have hbx3 : w3.cell? ⟨w.heap.size, 1, none⟩ = some (.slice (some ⟨b1, f0, none⟩) n c) := (grown_cell hg3 (by omega) (by omega)).trans ((grown_cell hg2 (by show w.heap.size < w1.heap.size; omega) (by omega)).trans hbx1)
                   have hm13 := Lib.hid (hm12.out.kept hg3 (by simp))
                   have hz3 : w.heap.size + 2 < w3.heap.size := by omega
                   have hz4 : w.heap.size < w3.heap.size := by omega
                   clear y0 y1 y4 z1 hbx1 hg2 hg3 hB1 hB2 hm11 hm21 hm12
                   have hw3 : wr.heap.size < w3.heap.size := by omega
                   go_wp2_with fail
                   clear y43 hw3
                   obtain ⟨wi, rfl⟩ : ∃ wi : World, wi = wr := ⟨_, rfl⟩
                   go_loopw [63] (fun i wr => ∃ j : Nat, i = .int .i64 j ∧ j ≤ hh.parts.n ∧ (∀ q ∈ d.parts.take j, q.1 < (n : Int)) ∧ Below w3.heap.size w3 wr) (fun i wr => hh.parts.n - (intOf i).toNat)
                   case atStart => exact ⟨0, rfl, Nat.zero_le _, by simp, Below.refl _ _⟩
                   case round =>
                     obtain ⟨j, rfl, hj, hall3, hb4⟩ := hrel
                     replace hall3 := Lib.hid hall3
                     have hB4 := hB3.trans (hb4.mono hB3.size)
                     have hs4 := hb4.size
                     have hbx4 := (hb4.cell (p := ⟨w.heap.size, 1, none⟩) hz4).trans hbx3
                     have hz5 : w.heap.size < wr.heap.size := by omega
                     have hrp2 := hrp.out.frame (good_flat _) (w' := wr) (fun i h1 h2 => (Below.sameB hB4 hhi i h1 h2).trans (Below.sameB hbel hhi i h1 h2).symm)
                     by_cases hjl : j < hh.parts.n
                     · obtain ⟨p1, g1, ⟨x0, x1, x2⟩, hA, _, hpw, hjb, hcs⟩ := hrp2.at hjl
                       have q0 := hcs 0 _ rfl
                       have q1 := hcs 1 _ rfl
                       have q2 := hcs 2 _ rfl
                       simp only [Nat.add_zero] at q0 q1 q2
                       rw [hA]
                       have hpw' : p1 < wr.heap.size := by omega
                       have hji : (0 : Int) ≤ (j : Int) ∧ (j : Int) < (hh.parts.n : Int) := by omega
                       have hno3 := Lib.hid (fun (h : (n : Int) ≤ x0) => e5.out k d _ hja.out (List.mem_of_getElem? hjb) h)
                       have hst3 := Lib.hid (fun (h : x0 < (n : Int)) => show ∀ q ∈ d.parts.take (j + 1), q.1 < (n : Int) from fun q hq => by
                         rw [take_snocG hjb, List.mem_append] at hq
                         rcases hq with hq | hq
                         · exact hall3.out q hq
                         · simp at hq; rw [hq]; exact h)
                       replace hA := Lib.hid hA
                       have hbx5 : (wr.alloc (.cells #[.int .i64 x0, .int .i64 x1, .int .i64 x2] 150 (0, 0))).cell? ⟨w.heap.size, 1, none⟩ = some (.slice (some ⟨b1, f0, none⟩) n c) := ((Below.refl wr.heap.size wr).alloc (Nat.le_refl _) _ |>.cell (by show w.heap.size < wr.heap.size; omega)).trans hbx4
                       clear hcs hjb
                       by_cases hx : (n : Int) ≤ x0
                       · have hvf := hno3.out hx
                         subst hvf
                         go_wp2_with fail
                         go_ret
                         exact ⟨rfl, hB4.alloc hB4.size _⟩
                       · go_wp2_with fail
                         go_roundw
                         case rel => exact ⟨j + 1, by go_num, by omega, hst3.out (by omega), hb4.alloc hs4 _⟩
                         case measure => simp [intOf]; omega
                     · have hjn : j = hh.parts.n := by omega
                       have hfull : d.parts.take j = d.parts := List.take_of_length_le (by rw [hrp.out.1]; omega)
                       have hall4 := Lib.hid (hfull ▸ hall3.out : ∀ q ∈ d.parts, q.1 < (n : Int))
                       replace hfull := Lib.hid hfull
                       replace hjn := Lib.hid hjn
                       have hts := Lib.hid (take_snocG hja.out)
                       have hm14 := Lib.hid (hm13.out.below hb4)
                       have hm24 := Lib.hid (hm23.out.below hb4)
                       have hz6 : w.heap.size + 2 < wr.heap.size := by omega
                       clear hall3
                       go_wp2_with fail
                       go_roundw
                       case rel =>
                         refine ⟨k + 1, _, _, by go_num, by omega, hm14.out, by rw [hts.out]; exact hnm.out.put d, hm24.out, by rw [hts.out]; exact hcd.out.put d, hst'.out, fun g hg => ?_, hbx4, hB4, hz6⟩
                         rw [hts.out, List.mem_append] at hg
                         rcases hg with hg | hg
                         · exact hpr.out g hg
                         · simp at hg; rw [hg]; exact hall4.out
                       case measure => simp [intOf]; omega)
    · have hkn : k = n := by omega
      have hall' := Lib.hid (show (List.range n).all (glAt L) = true by rw [← hkn]; exact hall.out)
      have hvt := e4.out hall'.out
      have htk : L.take k = L := List.take_of_length_le (by rw [hl.out]; omega)
      have hpr2 := hpr.out
      rw [htk] at hpr2
      have hps : ∀ g ∈ L, g.parts.length ≤ 6 ∧ ∀ q ∈ g.parts, 0 ≤ q.1 ∧ q.1 < (n : Int) := fun g hg => by
        have hgi := glyph_is (glOk_all hl.out hall'.out g hg)
        refine ⟨hgi.2.1, fun q hq => ⟨?_, hpr2 g hg q hq⟩⟩
        have := hgi.2.2.2.2.1 q hq
        simp [partOk, inB] at this
        exact this.1.1
      have hc := Lib.hid (depthsOf_any A n c lo hi L v hvt wr (hr.out.rd.frame good_glyph (Below.sameB hbel hhi)) (Nat.le_trans hhi hsz) h40 hps)
      replace hvt := Lib.hid hvt
      replace htk := Lib.hid htk
      replace hkn := Lib.hid hkn
      clear hps hpr2
      go_wp2_with fail
      refine hc.out.mono ?_
      rintro e w1 ⟨A', m, c', rfl, _, hb1⟩
      go_wp2_with fail
      go_ret
      exact ⟨rfl, hbel.trans (hb1.mono hsz)⟩
theorem implValidGS_any (d : GSet) (h : GSetH) (v : Bool) (hv : v = setOk d) (lo hi : Nat) (w : World) (hr : GSetRc w lo hi d h) (hhi : hi ≤ w.heap.size) (hm : d.small 1000000000) (hs : ∀ g ∈ d.gl, g.str) :
    Calls Tryz.prog 26 #[gsV d h] w fun e w' => e = .returned (.bool v) ∧ Below w.heap.size w w' :=
  implOk_any d.unit h.gl.A h.gl.n h.gl.c lo hi d.gl v hv w hr hhi (hm.gl hr.1).1 hm.g hs
end Go.Proofs.YtfkidklpjiiclaaGreat

