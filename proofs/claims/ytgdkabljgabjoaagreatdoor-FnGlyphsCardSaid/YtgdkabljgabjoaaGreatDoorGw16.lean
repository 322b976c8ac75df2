/- The depths of glyphs: the program's walk. Conditions: as each states. -/
import Derived.Maps.OwnOps
import Derived.Maps.OwnSet
import Derived.Maps.Views
import Derived.Test.YtgdkabljgabjoaaGreatDoorGw15
import Derived.Test.YtgdkabljgabjoaaGreatDoorGw02
import Derived.Test.YtgdkabljgabjoaaGreatDoorGw01
namespace Go.Proofs.YtgdkabljgabjoaaGreatDoor
open Go.RowKit
set_option linter.unusedVariables false
set_option maxRecDepth 100000

/-- block B holds the numbers D -/
def DepR (w : World) (lo B n : Nat) (D : Nat → Int) : Prop := ∃ ys : List Value, w.ownsRow lo 2 1 (.slice (some ⟨B, 0, none⟩) n n) n ys ∧ ∀ j, j < n → ys[j]? = some (.int .i64 (D j))
theorem DepR.at {w : World} {lo B n : Nat} {D : Nat → Int} (h : DepR w lo B n D) {j : Nat} (hj : j < n) : w.cell? ⟨B, j, none⟩ = some (.int .i64 (D j)) ∧ w.frozen? ⟨B, j, none⟩ = false ∧ B < w.heap.size := by
  obtain ⟨ys, h1, h2⟩ := h
  exact ⟨(h1.cellAt j (by omega)).trans (h2 j hj), h1.frozenAt j, (h1.lt B rfl).2⟩
theorem DepR.lt {w : World} {lo B n : Nat} {D : Nat → Int} (h : DepR w lo B n D) : B < w.heap.size := by
  obtain ⟨ys, h1, h2⟩ := h
  exact (h1.lt B rfl).2
theorem DepR.set {w : World} {lo B n : Nat} {D : Nat → Int} (h : DepR w lo B n D) {j : Nat} (hj : j < n) (x : Int) : DepR (w.setCell ⟨B, j, none⟩ (.int .i64 x)) lo B n (fun i => if i = j then x else D i) := by
  obtain ⟨ys, h1, h2⟩ := h
  have hl := h1.1
  refine ⟨_, (h1.stored j (.int .i64 x)).1, fun i hi => ?_⟩
  by_cases e : i = j
  · subst e
    rw [List.getElem?_set_self (by omega)]; simp
  · rw [List.getElem?_set_ne (by omega), h2 i hi]; simp [e]
theorem DepR.below {w w' : World} {lo B n : Nat} {D : Nat → Int} (h : DepR w lo B n D) (hb : Below w.heap.size w w') : DepR w' lo B n D := by
  obtain ⟨ys, h1, h2⟩ := h
  exact ⟨ys, own_below h1 hb, h2⟩
theorem DepR.alloc {w : World} {lo B n : Nat} {D : Nat → Int} (h : DepR w lo B n D) (o : Obj) : DepR (w.alloc o) lo B n D := by
  obtain ⟨ys, h1, h2⟩ := h
  exact ⟨ys, h1.alloc o, h2⟩
theorem DepR.congr {w : World} {lo B n : Nat} {D E : Nat → Int} (h : DepR w lo B n D) (e : ∀ j, j < n → D j = E j) : DepR w lo B n E := by
  obtain ⟨ys, h1, h2⟩ := h
  exact ⟨ys, h1, fun j hj => by rw [h2 j hj, e j hj]⟩
theorem depF_step {T : List (List Int)} {out : List Int} {k : Nat} {ps : List Int} (hps : T[k]? = some ps) (j : Nat) : depF T (out ++ [(k : Int)]) j = if j = k then dOf (depF T out) ps else depF T out j := by
  rw [depF_snoc, Int.toNat_natCast, hps]
  by_cases h : j = k
  · subst h; simp
  · rw [if_neg (by omega), if_neg h]

/-- how depthsOf ends -/
def DepEnd (T : List (List Int)) (n : Nat) (t : Bool) (w w' : World) (e : Ending) : Prop := ∃ A' m c', e = .returned (.tuple #[.slice A' m c', .bool t]) ∧ (t = true → A' = some ⟨w.heap.size, 0, none⟩ ∧ m = n ∧ c' = n ∧ DepR w' w.heap.size w.heap.size n (fun j => depF T (order T) j)) ∧ Below w.heap.size w w'
theorem DepEnd.yes {T : List (List Int)} {n : Nat} {w w' : World} (h : DepR w' w.heap.size w.heap.size n (fun j => depF T (order T) j)) (hb : Below w.heap.size w w') : DepEnd T n true w w' (.returned (.tuple #[.slice (some ⟨w.heap.size, 0, none⟩) n n, .bool true])) := ⟨_, _, _, rfl, fun _ => ⟨rfl, rfl, rfl, h⟩, hb⟩
theorem DepEnd.no {T : List (List Int)} {n : Nat} {w w' : World} (hb : Below w.heap.size w w') : DepEnd T n false w w' (.returned (.tuple #[.slice none 0 0, .bool false])) := ⟨_, _, _, rfl, (fun h => by cases h), hb⟩

set_option maxHeartbeats 8000000 in
theorem depthsOf_any (A : Option Addr) (n c lo hi : Nat) (L : List Gl) (t : Bool) (ht : t = decide ((order (tgts L)).length = n)) (w : World) (hr : GsRd w lo hi A n L) (hhi : hi ≤ w.heap.size) (hn : n ≤ 40) (hps : ∀ g ∈ L, g.parts.length ≤ 6 ∧ ∀ q ∈ g.parts, 0 ≤ q.1 ∧ q.1 < (n : Int)) :
    Calls Tryz.prog 60 #[.slice A n c] w fun e w' => DepEnd (tgts L) n t w w' e := by
  obtain ⟨i0, hi0, hz0, hs0, hby0⟩ := info_parts infoInt64
  obtain ⟨T, hT⟩ : ∃ T, T = tgts L := ⟨_, rfl⟩
  rw [← hT]
  rw [← hT] at ht
  have hTl : Hid (T.length = n) := by show T.length = n; rw [hT, tgts_length, hr.1]
  have hTat := Lib.hid (fun (j : Nat) (g : Gl) (h : L[j]? = some g) => show T[j]? = some (g.parts.map (·.1)) from by rw [hT]; exact tgts_at h)
  replace hT := Lib.hid hT
  replace ht := Lib.hid ht
  replace hr := Lib.hid hr
  replace hps := Lib.hid hps
  go_enter Tryz.func60, Tryz.ntmps60
  go_wp2_with (at_make; refine wpList_make_full _ rfl _ _ 49 rfl w.heap.size 2 i0 (.int .i64 0) 1 Tryz.underlying49 hi0 hz0 hs0 .i64 .i64 _ _ n rfl rfl rfl rfl (by rw [hby0]; omega) (by unfold maxLen; omega) (Nat.le_refl _) ?_; intro w0 hown0 hg0)
  have hb0 : Below w.heap.size w w0 := (Below.refl _ _).grown hg0 (Nat.le_refl _) (by simp)
  clear hg0
  go_loopw [18] (fun i wr => ∃ (k : Nat) (ys : List Value), i = .int .i64 k ∧ k ≤ n ∧ wr.ownsRow w.heap.size 2 1 (.slice (some ⟨w.heap.size, 0, none⟩) n n) n ys ∧ (∀ j, j < k → ys[j]? = some (.int .i64 (-1))) ∧ Below w.heap.size w wr) (fun i wr => n - (intOf i).toNat)
  case atStart => exact ⟨0, _, rfl, Nat.zero_le _, hown0, fun j hj => absurd hj (Nat.not_lt_zero j), hb0⟩
  case round =>
    clear hown0 hb0
    obtain ⟨k, ys, rfl, hk, ho, hys, hbel⟩ := hrel
    replace hys := Lib.hid hys
    have hX : w.heap.size < wr.heap.size := (ho.lt _ rfl).2
    by_cases hlt : k < n
    · have hl := ho.1
      have hc := ho.cellAt k (by omega)
      rw [List.getElem?_eq_getElem (by omega)] at hc
      have hf := ho.frozenAt k
      have hki : (0 : Int) ≤ (k : Int) ∧ (k : Int) < (n : Int) := by omega
      replace hl := Lib.hid hl
      generalize ys[k]'(by have := hl.out; omega) = v0 at hc
      replace ho := Lib.hid ho
      go_wp2_with fail
      go_roundw
      case rel =>
        refine ⟨k + 1, _, by go_num, by omega, (ho.out.stored k (.int .i64 (-1))).1, fun j hj => ?_, hbel.setCell (Nat.le_refl _) _⟩
        by_cases e : j = k
        · subst e
          rw [List.getElem?_set_self (by have := hl.out; omega)]
        · rw [List.getElem?_set_ne (by omega)]
          exact hys.out j (by omega)
      case measure => simp [intOf]; omega
    · have hkn : k = n := by omega
      have hdep := Lib.hid (show DepR wr w.heap.size w.heap.size n (fun j => depF T [] j) from ⟨ys, ho, fun j hj => by rw [hys.out j (by omega)]; rfl⟩)
      replace hkn := Lib.hid hkn
      clear ho hys
      go_wp2_with fail
      obtain ⟨wo, rfl⟩ : ∃ wo : World, wo = wr := ⟨_, rfl⟩
      go_loopw [6] (fun i wr => ∃ (out : List Int) (f : Nat), i = .int .i64 out.length ∧ DepR wr w.heap.size w.heap.size n (fun j => depF T out j) ∧ OrdTo T out f ∧ Below w.heap.size w wr) (fun i wr => n - (intOf i).toNat)
      case atStart => exact ⟨[], T.length + 1, rfl, hdep.out, OrdTo.start T, hbel⟩
      case round =>
        clear hdep hbel hX
        obtain ⟨out, f, rfl, hdep, hto, hbel⟩ := hrel
        have hol : out.length ≤ n := by have := hto.ord.le; have := hTl.out; omega
        replace hto := Lib.hid hto
        replace hdep := Lib.hid hdep
        by_cases hlo : out.length < n
        rotate_left
        · have hon : out.length = n := by omega
          have hfull := Lib.hid (hto.out.full (by rw [hTl.out, hon]))
          have htt : t = true := by rw [ht.out, hfull.out, hon]; simp
          subst htt
          have g0 : ¬ ((out.length : Int) < (n : Int)) := by omega
          replace hon := Lib.hid hon
          go_wp2_with fail
          go_ret2
          exact DepEnd.yes (by rw [hfull.out]; exact hdep.out) hbel
        · go_wp2_with fail
          obtain ⟨wo, rfl⟩ : ∃ wo : World, wo = wr := ⟨_, rfl⟩
          go_loopw [32, 6] (fun i kn wr => ∃ (k : Nat), i = .int .i64 k ∧ k ≤ n ∧ kn = .int .i64 (passK T out k).length ∧ DepR wr w.heap.size w.heap.size n (fun j => depF T (passK T out k) j) ∧ Below w.heap.size w wr) (fun i kn wr => n - (intOf i).toNat)
          case atStart => exact ⟨0, rfl, Nat.zero_le _, rfl, hdep.out, hbel⟩
          case round =>
            clear hdep hbel
            obtain ⟨k, rfl, hk, rfl, hdep, hbel⟩ := hrel
            have hpl : (passK T out k).length ≤ 40 := by have := (hto.out.ord.passK k).le; have := hTl.out; omega
            have hple := Lib.hid (passK_le T out k)
            have hpord := Lib.hid (hto.out.ord.passK k)
            have hps1 : passK T out (k + 1) = stepO T (passK T out k) k := rfl
            replace hps1 := Lib.hid hps1
            generalize hpe0 : passK T out k = o2 at hpl hple hpord hps1 hdep ⊢
            have hpe := Lib.hid hpe0.symm
            clear hpe0
            have hsz := hbel.size
            have hX := hdep.lt
            by_cases hlt : k < n
            · obtain ⟨b1, f1, d, hh, rfl, hb0, hb1, hja, hcs, hrg⟩ := gs_at (hr.out.frame good_glyph (Below.sameB hbel hhi)) hlt
              have q0 := hcs 0 _ rfl
              have q1 := hcs 1 _ rfl
              have q2 := hcs 2 _ rfl
              have q3 := hcs 3 _ rfl
              have q4 := hcs 4 _ rfl
              have q5 := hcs 5 _ rfl
              have q6 := hcs 6 _ rfl
              simp only [Nat.add_zero] at q0 q1 q2 q3 q4 q5 q6
              have hb1w : b1 < wr.heap.size := by omega
              obtain ⟨hpn0, hprng⟩ := hps.out d (List.mem_of_getElem? hja)
              have hpn : hh.parts.n ≤ 6 := by rw [← hrg.2.1.1]; exact hpn0
              replace hprng := Lib.hid hprng
              have hTk := Lib.hid (hTat.out k d hja)
              have hrp := Lib.hid hrg.2.1
              obtain ⟨x, hx⟩ : ∃ x, x = depF T o2 k := ⟨_, rfl⟩
              obtain ⟨dc, df, _⟩ := hdep.at hlt
              simp only [← hx] at dc
              have hxi : 0 ≤ x ↔ (k : Int) ∈ o2 := by rw [hx]; exact depF_iff
              replace hx := Lib.hid hx
              replace hxi := Lib.hid hxi
              replace hdep := Lib.hid hdep
              have hki : (0 : Int) ≤ (k : Int) ∧ (k : Int) < (n : Int) := by omega
              clear hcs hrg hja hb0 hb1 hpn0
              by_cases hx0 : 0 ≤ x
              · have hst := Lib.hid (show passK T out (k + 1) = o2 by rw [hps1.out]; exact stepO_in (hxi.out.1 hx0))
                go_wp2_with fail
                go_roundw
                case rel => exact ⟨k + 1, by go_num, by omega, by rw [hst.out], by rw [hst.out]; exact hdep.out.alloc _, hbel.alloc hsz _⟩
                case measure => simp [intOf]; omega
              · go_wp2_with fail
                obtain ⟨wi, rfl⟩ : ∃ wi : World, wi = wr := ⟨_, rfl⟩
                go_loopw [45, 10] (fun i dp wr => ∃ (j : Nat) (y : Int), i = .int .i64 j ∧ j ≤ hh.parts.n ∧ dp = .int .i64 y ∧ y = dOf (depF T o2) ((d.parts.map (·.1)).take j) ∧ inAll o2 ((d.parts.map (·.1)).take j) = true ∧ DepR wr w.heap.size w.heap.size n (fun j => depF T o2 j) ∧ Below w.heap.size w wr) (fun i dp wr => hh.parts.n - (intOf i).toNat)
                case atStart => exact ⟨0, 0, rfl, Nat.zero_le _, rfl, rfl, rfl, hdep.out.alloc _, hbel.alloc hsz _⟩
                case round =>
                  have hbel0 := Lib.hid hbel
                  clear hbel hsz hX dc df q0 q1 q2 q3 q4 q5 q6 hb1w
                  obtain ⟨j, y, rfl, hj, rfl, hy, hin, hdep, hbel⟩ := hrel
                  have hyb := dOf_bd (depF T o2) ((d.parts.map (·.1)).take j) 40 (by omega) (fun q _ => by have := (depF_bd T o2 q).2; omega)
                  rw [← hy] at hyb
                  obtain ⟨hy0, hy40⟩ := hyb
                  have hsz := hbel.size
                  have hX := hdep.lt
                  have hrp2 := hrp.out.frame (good_flat _) (w' := wr) (fun i h1 h2 => (Below.sameB hbel hhi i h1 h2).trans (Below.sameB hbel0.out hhi i h1 h2).symm)
                  replace hy := Lib.hid hy
                  replace hin := Lib.hid hin
                  by_cases hjl : j < hh.parts.n
                  · obtain ⟨p1, g1, ⟨y0, y1, y2⟩, hA, _, hpw, hjb, hcs⟩ := hrp2.at hjl
                    have q0 := hcs 0 _ rfl
                    have q1 := hcs 1 _ rfl
                    have q2 := hcs 2 _ rfl
                    simp only [Nat.add_zero] at q0 q1 q2
                    rw [hA]
                    have hpw' : p1 < wr.heap.size := by omega
                    have hji : (0 : Int) ≤ (j : Int) ∧ (j : Int) < (hh.parts.n : Int) := by omega
                    obtain ⟨hy00, hy0n⟩ := hprng.out _ (List.mem_of_getElem? hjb)
                    simp only at hy00 hy0n
                    have hjm : (d.parts.map (·.1))[j]? = some y0 := by rw [List.getElem?_map, hjb]; rfl
                    have hjs := Lib.hid (inAll_step (out := o2) hjm)
                    have hds := Lib.hid (show dOf (depF T o2) ((d.parts.map (·.1)).take (j + 1)) = max (dOf (depF T o2) ((d.parts.map (·.1)).take j)) (depF T o2 y0 + 1) by rw [take_snoc_at hjm, dOf_snoc])
                    obtain ⟨z, hz⟩ : ∃ z, z = depF T o2 y0 := ⟨_, rfl⟩
                    have hzb := depF_bd T o2 y0
                    rw [← hz] at hzb
                    obtain ⟨hz1, hz2⟩ := hzb
                    have hz40 : z ≤ 40 := by omega
                    obtain ⟨dc, _, _⟩ := hdep.at (j := y0.toNat) (by omega)
                    rw [show ((y0.toNat : Nat) : Int) = y0 by omega, ← hz] at dc
                    have hzi : 0 ≤ z ↔ y0 ∈ o2 := by rw [hz]; exact depF_iff
                    rw [← hz] at hds
                    replace hds := Lib.hid hds.out
                    have hno := Lib.hid (fun (h : ¬ 0 ≤ z) => show passK T out (k + 1) = o2 from by
                      rw [hps1.out]
                      exact stepO_wait hTk.out (fun hall => h (hzi.2 (hall y0 (List.mem_of_getElem? hjm)))))
                    replace hz := Lib.hid hz
                    replace hzi := Lib.hid hzi
                    replace hA := Lib.hid hA
                    replace hdep := Lib.hid hdep
                    clear hcs hjb hjm hz2
                    by_cases hz0 : 0 ≤ z
                    · have hin' := Lib.hid (show inAll o2 ((d.parts.map (·.1)).take (j + 1)) = true by rw [← hjs.out, hin.out]; simpa using hzi.out.1 hz0)
                      go_wp2_with fail
                      go_roundw
                      case rel => exact ⟨j + 1, _, by go_num, by omega, rfl, by rw [hds.out, ← hy.out] <;> (split <;> omega), hin'.out, hdep.out.alloc _, hbel.alloc hsz _⟩
                      case measure => simp [intOf]; omega
                    · have hst := Lib.hid (hno.out hz0)
                      go_wp2_with fail
                      go_roundw
                      case rel => exact ⟨k + 1, by go_num, by omega, by rw [hst.out], by rw [hst.out]; exact hdep.out.alloc _, hbel.alloc hsz _⟩
                      case measure => simp [intOf]; omega
                  · have hjn : j = hh.parts.n := by omega
                    have hfull : (d.parts.map (·.1)).take j = d.parts.map (·.1) := List.take_of_length_le (by rw [List.length_map, hrp.out.1]; omega)
                    have hy' := Lib.hid (hfull ▸ hy.out : y = dOf (depF T o2) (d.parts.map (·.1)))
                    have hin' := Lib.hid (hfull ▸ hin.out : inAll o2 (d.parts.map (·.1)) = true)
                    have hst : passK T out (k + 1) = o2 ++ [(k : Int)] := by rw [hps1.out]; exact stepO_add hTk.out (fun hm => by have := hxi.out.2 hm; omega) (inAll_iff.1 hin'.out)
                    replace hst := Lib.hid hst
                    obtain ⟨dc, df, _⟩ := hdep.at hlt
                    generalize depF T o2 ((k : Nat) : Int) = x1 at dc
                    have hds := Lib.hid (hdep.set hlt y)
                    replace hfull := Lib.hid hfull
                    replace hjn := Lib.hid hjn
                    clear hy hin
                    replace hdep := Lib.hid hdep
                    have hol2 : (0 : Int) ≤ (o2.length : Int) ∧ (o2.length : Int) ≤ 40 := by omega
                    go_wp2_with fail
                    go_roundw
                    case rel => exact ⟨k + 1, by go_num, by omega, by rw [hst.out, List.length_append]; rfl, by rw [hst.out]; exact hds.out.congr (fun i hi => by rw [depF_step hTk.out, ← hy'.out]), hbel.setCell (Nat.le_refl _) _⟩
                    case measure => simp [intOf]; omega
            · have hkn : k = n := by omega
              have hTn : T.length = k := by rw [hTl.out, hkn]
              have e2 : o2 = passK T out T.length := by rw [hTn, ← hpe.out]
              replace hkn := Lib.hid hkn
              replace hTn := Lib.hid hTn
              replace hdep := Lib.hid hdep
              by_cases he : o2.length = out.length
              · have hord := hto.out.done (by rw [← e2]; exact he)
                have htf : t = false := by rw [ht.out, hord, decide_eq_false_iff_not]; omega
                have g0 : ((o2.length : Int) == (out.length : Int)) = true := by rw [he]; simp
                subst htf
                replace e2 := Lib.hid e2
                replace he := Lib.hid he
                replace hord := Lib.hid hord
                go_wp2_with fail
                go_ret2
                exact DepEnd.no hbel
              · obtain ⟨g, _, hg⟩ := hto.out.next (by rw [← e2]; exact he)
                rw [← e2] at hg
                have g0 : ((o2.length : Int) == (out.length : Int)) = false := by simp; omega
                have hg2 := Lib.hid hg
                have hlt2 : out.length < o2.length := by have := hple.out; omega
                clear hg
                replace e2 := Lib.hid e2
                replace he := Lib.hid he
                go_wp2_with fail
                go_roundw
                case rel => exact ⟨o2, g, rfl, hdep.out, hg2.out, hbel⟩
                case measure => simp [intOf]; omega
end Go.Proofs.YtgdkabljgabjoaaGreatDoor

/- A map of the call's own as a function from keys: made, looked up, stored. No program in sight. Conditions: none. -/
namespace Go.Proofs.YtgdkabljgabjoaaGreatDoor
open Go.RowKit Go.Maps
set_option linter.unusedVariables false
set_option maxRecDepth 100000

/-- how an element reads -/
structure ElemRd (α : Type) where
  enc : α → Value
  dat : α → DataW Unit
  dec : Value → Option α
  de : ∀ a, dec (enc a) = some a
  inv : ∀ v a, dec v = some a → v = enc a
  inj : ∀ a b, dat a = dat b → a = b
def ElemRd.R {α : Type} (E : ElemRd α) (v : Value) : Option (DataW Unit × List MemPlace) := (E.dec v).map fun a => (E.dat a, [])
theorem ElemRd.R_mk {α : Type} (E : ElemRd α) (a : α) : E.R (E.enc a) = some (E.dat a, []) := by simp [ElemRd.R, E.de]
theorem ElemRd.R_inv {α : Type} (E : ElemRd α) {v : Value} {a : α} {ps : List MemPlace} (h : E.R v = some (E.dat a, ps)) : v = E.enc a := by
  unfold ElemRd.R at h
  cases hd : E.dec v with
  | none => rw [hd] at h; simp at h
  | some b =>
    rw [hd] at h
    simp at h
    rw [← E.inj _ _ h.1]
    exact E.inv v b hd
def boolE : ElemRd Bool := { enc := .bool, dat := fun x => .lit (.bool x), dec := fun v => match v with | .bool x => some x | _ => none, de := fun a => rfl, inv := fun v a h => by cases v <;> simp at h; rw [h], inj := fun a b h => by injection h with h; injection h }
def intE : ElemRd Int := { enc := .int .i64, dat := fun x => .lit (.int .i64 x), dec := fun v => match v with | .int .i64 x => some x | _ => none, de := fun a => rfl, inv := fun v a h => by
                             cases v <;> try (simp at h; done)
                             rename_i k n; cases k <;> simp at h; rw [h],
                           inj := fun a b h => by injection h with h; injection h }

/-- block b is a map that holds f -/
def MapF {α : Type} (E : ElemRd α) (w : World) (P : Program) (k : TypeId) (b n : Nat) (f : Lit → Option α) : Prop :=
  ∃ D : DataW Unit, w.ownsMap P k E.R b n D ∧ IsMap D ∧ ∀ kl z, D.atKey kl z = ((f kl).map E.dat).getD z
variable {α : Type} {E : ElemRd α} {w : World} {P : Program} {k : TypeId} {b n : Nat} {f : Lit → Option α}
theorem MapF.made (E : ElemRd α) (w : World) (P : Program) (k : TypeId) : MapF E (w.alloc (.map #[] 0)) P k w.heap.size 0 fun _ => none :=
  ⟨.map [], World.ownsMap_made w P k E.R, isMap_empty, fun kl z => rfl⟩
theorem MapF.kept {w' : World} {row : Option Nat} (h : MapF E w P k b n f) (hg : w.grownBy w' row) (hne : some b ≠ row) : MapF E w' P k b n f := by
  obtain ⟨D, h1, h2, h3⟩ := h
  exact ⟨D, h1.kept hg hne, h2, h3⟩
theorem MapF.same {w' : World} (h : MapF E w P k b n f) (hg : w'.heap[b]? = w.heap[b]?) : MapF E w' P k b n f := by
  obtain ⟨D, ⟨es, c, h0, hr⟩, h2, h3⟩ := h
  exact ⟨D, ⟨es, c, hg.trans h0, hr⟩, h2, h3⟩
theorem MapF.lt (h : MapF E w P k b n f) : b < w.heap.size := by
  obtain ⟨D, h1, h2, h3⟩ := h
  exact h1.lt
theorem MapF.below {w' : World} (h : MapF E w P k b n f) (hb : Below w.heap.size w w') : MapF E w' P k b n f := h.same (hb.block b h.lt)
theorem MapF.alloc (h : MapF E w P k b n f) (o : Obj) : MapF E (w.alloc o) P k b n f := h.same (Below.heap_alloc w o b h.lt)
theorem MapF.drew (h : MapF E w P k b n f) : MapF E w.drew P k b n f := h
theorem MapF.drewN (h : MapF E w P k b n f) (q : Nat) : MapF E (w.drewN q) P k b n f := h
theorem MapF.setCell (h : MapF E w P k b n f) {a : Addr} (ha : b ≠ a.block) (u : Value) : MapF E (w.setCell a u) P k b n f := h.same (Below.heap_setCell w a u b (by omega))
theorem MapF.mono {n' : Nat} (h : MapF E w P k b n f) (hn : n ≤ n') : MapF E w P k b n' f := by
  obtain ⟨D, h1, h2, h3⟩ := h
  exact ⟨D, h1.mono hn, h2, h3⟩
theorem MapF.congr {g : Lit → Option α} (h : MapF E w P k b n f) (hg : ∀ kl, f kl = g kl) : MapF E w P k b n g := by
  obtain ⟨D, h1, h2, h3⟩ := h
  exact ⟨D, h1, h2, fun kl z => by rw [h3, hg]⟩
theorem MapF.has (h : MapF E w P k b n f) (kl : Lit) : ∀ D : DataW Unit, (∀ kl z, D.atKey kl z = ((f kl).map E.dat).getD z) → Maps.has D kl = (f kl).isSome := by
  intro D h3
  cases hf : f kl with
  | none => exact has_false_of_atKey fun z => by rw [h3, hf]; rfl
  | some a => exact has_true_of_atKey (y := E.dat a) fun z => by rw [h3, hf]; rfl
def putF (f : Lit → Option α) (kl : Lit) (a : α) : Lit → Option α := fun k' => if k'.sameKey kl then some a else f k'
theorem putF_same (f : Lit → Option α) {kl : Lit} (hk : WideAt.IsKeyLit kl) (a : α) : putF f kl a kl = some a := if_pos (WideAt.sameKey_self hk)
theorem putF_ne (f : Lit → Option α) {kl k' : Lit} (h : k' ≠ kl) (a : α) : putF f kl a k' = f k' := if_neg (by rw [sameKey_ne h]; simp)

theorem run_lookup_f (t : TypeId) (e : TypeId) (K : Keyed P k) (ht : P.underlying t = some (.map k e)) (z0 : α) (hz : (zeroValue e).run P w = .ok (E.enc z0) w) (hown : MapF E w P k b n f) {key : Value} {kl : Lit} (hkey : keyOf P k key = some kl) (r : α) (hr : (f kl).getD z0 = r) :
    (Instr.lookup t (.map (some b)) key false).run P w = .ok (E.enc r) w := by
  obtain ⟨D, h1, h2, h3⟩ := hown
  obtain ⟨v, ps, hrun, hv⟩ := h1.lookup K ht hz (E.R_mk z0) hkey
  rw [h3] at hv
  have e1 : ((f kl).map E.dat).getD (E.dat z0) = E.dat ((f kl).getD z0) := by cases f kl <;> rfl
  rw [e1] at hv
  have hve := E.R_inv hv
  rw [hr] at hve
  rw [hrun, hve]
theorem wpList_lookup_f_ok {ops : Array Oper} {rest : List Oper} {o : Oper} {a : Act} {Q : Exit → Act → World → Prop} (hg : o.guard = none) (m x : Operand) (t : TypeId) (hop : o.op = Op.lookup t m x true)
    (e : TypeId) (K : Keyed P k) (ht : P.underlying t = some (.map k e)) (z0 : α) (hz : (zeroValue e).run P w = .ok (E.enc z0) w) (hm : a.eval m = .map (some b)) (hown : MapF E w P k b n f) {key : Value} {kl : Lit} (hx : a.eval x = key) (hkey : keyOf P k key = some kl)
    (r : α) (hr : (f kl).getD z0 = r) (s : Bool) (hs : (f kl).isSome = s) (hK : wpList P ops Q rest (a.put o.dst (.tuple #[E.enc r, .bool s])) w) : wpList P ops Q (o :: rest) a w := by
  have hh := hown.has kl
  obtain ⟨D, h1, h2, h3⟩ := hown
  refine wpList_lookup_own_ok w hg m x t hop k e K ht E.R hz (E.dat z0) [] (E.R_mk z0) b n D hm h1 key kl hx hkey fun v ps hv => ?_
  rw [h3] at hv
  have e1 : ((f kl).map E.dat).getD (E.dat z0) = E.dat ((f kl).getD z0) := by cases f kl <;> rfl
  rw [e1] at hv
  have hve := E.R_inv hv
  rw [hr] at hve
  subst hve
  rw [hh D h3, hs]
  exact hK
theorem wpList_mapUpdate_f {ops : Array Oper} {rest : List Oper} {o : Oper} {a : Act} {Q : Exit → Act → World → Prop} (hg : o.guard = none) (m x v : Operand) (t : TypeId) (hop : o.op = Op.mapUpdate t m x v)
    (e : TypeId) (K : Keyed P k) (ht : P.underlying t = some (.map k e)) (hm : a.eval m = .map (some b)) (hown : MapF E w P k b n f) (hn : n < maxLen) {key : Value} {kl : Lit} (hx : a.eval x = key) (hkey : keyOf P k key = some kl) (r : α) (hv : a.eval v = E.enc r)
    (hK : ∀ w', MapF E w' P k b (n + 1) (putF f kl r) → w.grownBy w' (some b) → wpList P ops Q rest (a.put o.dst undef) w') : wpList P ops Q (o :: rest) a w := by
  obtain ⟨D, h1, h2, h3⟩ := hown
  refine wpList_mapUpdate_own w hg m x v t hop k e K ht E.R b n D hm h1 hn key (E.enc r) kl hx hv hkey (E.dat r) [] (E.R_mk r) fun w' o1 g1 => ?_
  refine hK w' ⟨_, o1, h2.put _ _, fun k' z => ?_⟩ g1
  by_cases hk' : k' = kl
  · subst hk'
    rw [atKey_put_same h2 (K.key hkey), putF_same f (K.key hkey)]; rfl
  · rw [atKey_put_other hk', h3, putF_ne f hk']
theorem run_mapUpdate_f (t : TypeId) (e : TypeId) (K : Keyed P k) (ht : P.underlying t = some (.map k e)) (hown : MapF E w P k b n f) (hn : n < maxLen) {key : Value} {kl : Lit} (hkey : keyOf P k key = some kl) (r : α) {v : Value} (hv : v = E.enc r) :
    ∃ w', (Instr.mapUpdate t (.map (some b)) key v).run P w = .ok () w' ∧ MapF E w' P k b (n + 1) (putF f kl r) ∧ w.grownBy w' (some b) := by
  obtain ⟨D, h1, h2, h3⟩ := hown
  subst hv
  obtain ⟨w', hrun, r1, r2⟩ := h1.update K ht hn hkey (E.R_mk r)
  refine ⟨w', hrun, ⟨_, r1, h2.put _ _, fun k' z => ?_⟩, r2⟩
  by_cases hk' : k' = kl
  · subst hk'
    rw [atKey_put_same h2 (K.key hkey), putF_same f (K.key hkey)]; rfl
  · rw [atKey_put_other hk', h3, putF_ne f hk']
theorem grown_cell {w w' : World} {b : Nat} (hg : w.grownBy w' (some b)) {x o : Nat} (hx : x < w.heap.size) (hne : x ≠ b) : w'.cell? ⟨x, o, none⟩ = w.cell? ⟨x, o, none⟩ :=
  World.cell?_of_block (w := w) (hg.block x hx (by simpa using hne))
end Go.Proofs.YtgdkabljgabjoaaGreatDoor

