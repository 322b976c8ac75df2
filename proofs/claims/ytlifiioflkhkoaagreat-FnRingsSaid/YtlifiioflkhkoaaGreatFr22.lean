/- FitRing: the program's side. Printed by mk_fr9.py. Conditions: as each states. -/
import Derived.Deep.DeepCutAuto
import Derived.Test.YtlifiioflkhkoaaGreatFr20
import Derived.Test.YtlifiioflkhkoaaGreatFr02
namespace Go.Proofs.YtlifiioflkhkoaaGreat
open Go.RowKit
set_option linter.unusedVariables false
set_option maxRecDepth 100000

abbrev Seven (W : World) (r b o1 o2 o3 : Nat) (h : Value) (ax ay px py bx ey : Int) : Prop := W.cell? ⟨r, 0, none⟩ = some h ∧ W.cell? ⟨b, o1, none⟩ = some (.int .i64 ax) ∧ W.cell? ⟨b, o1 + 1, none⟩ = some (.int .i64 ay) ∧ W.cell? ⟨b, o2, none⟩ = some (.int .i64 px) ∧ W.cell? ⟨b, o2 + 1, none⟩ = some (.int .i64 py) ∧ W.cell? ⟨b, o3, none⟩ = some (.int .i64 bx) ∧ W.cell? ⟨b, o3 + 1, none⟩ = some (.int .i64 ey)
theorem Seven.below {W W' : World} {B r b o1 o2 o3 : Nat} {h : Value} {ax ay px py bx ey : Int} (s : Seven W r b o1 o2 o3 h ax ay px py bx ey) (hb : Below B W W') (hr : r < B) (hbb : b < B) : Seven W' r b o1 o2 o3 h ax ay px py bx ey := by
  obtain ⟨s0, s1, s2, s3, s4, s5, s6⟩ := s
  exact ⟨(hb.cell (p := ⟨r, 0, none⟩) hr).trans s0, (hb.cell (p := ⟨b, o1, none⟩) hbb).trans s1, (hb.cell (p := ⟨b, o1 + 1, none⟩) hbb).trans s2, (hb.cell (p := ⟨b, o2, none⟩) hbb).trans s3, (hb.cell (p := ⟨b, o2 + 1, none⟩) hbb).trans s4, (hb.cell (p := ⟨b, o3, none⟩) hbb).trans s5, (hb.cell (p := ⟨b, o3 + 1, none⟩) hbb).trans s6⟩
theorem Seven.set {W : World} {g k r b o1 o2 o3 : Nat} {h : Value} {ax ay px py bx ey : Int} (s : Seven W r b o1 o2 o3 h ax ay px py bx ey) (hr : r < g) (hbb : b < g) (x : Value) : Seven (W.setCell ⟨g, k, none⟩ x) r b o1 o2 o3 h ax ay px py bx ey :=
  s.below ((Below.refl g W).setCell (p := ⟨g, k, none⟩) (Nat.le_refl _) x) hr hbb
theorem RdS.dropL {w : World} {lo hi b off n i : Nat} {L : List (Int × Int)} (h : RdS 2 (FlatR ptC) w lo hi (some ⟨b, off, none⟩) n L) (hi' : i ≤ n) : RdS 2 (FlatR ptC) w lo hi (some ⟨b, off + i * 2, none⟩) (n - i) (L.drop i) := by
  have hl := h.1
  refine ⟨by rw [List.length_drop, hl], fun h0 => ?_⟩
  obtain ⟨b', off', hA, h1, h2, h3⟩ := h.2 (by omega)
  injection hA with hA
  injection hA with e1 e2
  subst e1 e2
  refine ⟨b, off + i * 2, rfl, h1, h2, fun j a hj => ?_⟩
  rw [List.getElem?_drop] at hj
  obtain ⟨es, e3, e4, e5⟩ := h3 (i + j) a hj
  refine ⟨es, e3, fun u x hu => ?_, e5⟩
  have := e4 u x hu
  rw [Nat.add_mul, ← Nat.add_assoc] at this
  exact this
theorem validRing_any (A : Option Addr) (n c lo hi : Nat) (L : List (Int × Int)) (v : Bool) (hv : v = pathOk L) (w : World) (hr : RdS 2 (FlatR ptC) w lo hi A n L) (hhi : hi ≤ w.heap.size) (hn : n ≤ 1048576) :
    Calls Tryz.prog 29 #[.agg #[.slice A n c]] w fun e w' => e = .returned (.bool v) ∧ Below w.heap.size w w' := by
  have hc := Lib.hid (fun o => isPath_any A n c lo hi L v hv (w.alloc o) (hr.frame (good_flat _) (SameB.alloc (SameB.refl _ _ _) hhi _)) (by simp; omega) hn)
  clear hr hv
  go_enter Tryz.func29, Tryz.ntmps29
  go_wp2_with fail
  refine (hc.out _).mono ?_
  rintro e w1 ⟨rfl, hb1⟩
  have hB := (Go.Joins.below_alloc1 _ _).trans (hb1.mono (by simp))
  clear hb1
  go_wp2_with fail
  go_ret
  exact ⟨rfl, hB⟩

end Go.Proofs.YtlifiioflkhkoaaGreat

