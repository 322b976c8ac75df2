/- The laws on NearPath and PathWithin. Conditions: as each states. -/
import Derived.Deep.RegionHeld3
import Derived.Test.YtgelkdcggnffeaaGreatFtg16
namespace Go.Proofs.YtgelkdcggnffeaaGreat
open Go.RowKit
set_option linter.unusedVariables false
set_option maxRecDepth 100000

theorem allT_no {α : Type} {f : α → Bool} {L : List α} {k : Nat} {a : α} (h : L[k]? = some a) (hf : f a = false) : L.all f = false := by
  rw [List.all_eq_false]; exact ⟨a, List.mem_of_getElem? h, by simp [hf]⟩
theorem allT_step {α : Type} {f : α → Bool} {L : List α} {k : Nat} {a : α} (h0 : (L.take k).all f = true) (h : L[k]? = some a) (hf : f a = true) : (L.take (k + 1)).all f = true := by
  have hl := (List.getElem?_eq_some_iff.1 h).1
  rw [List.getElem?_eq_getElem hl] at h; injection h with h
  rw [List.take_succ_eq_append_getElem hl, List.all_append, h0, h]; simp [hf]
def pathOk (L : List (Int × Int)) : Bool := inB L.length 1 400 && L.all pt2Ok
theorem pathOk_is {L : List (Int × Int)} (h : pathOk L = true) : 1 ≤ L.length ∧ L.length ≤ 400 ∧ ∀ p ∈ L, ptOk p.1 p.2 = true := by
  simp only [pathOk, Bool.and_eq_true, inB_iff, List.all_eq_true] at h
  obtain ⟨⟨h1, h2⟩, h3⟩ := h
  exact ⟨by omega, by omega, h3⟩
def withinB (L M : List (Int × Int)) (r : Int) : Bool := L.all fun p => nearP M p.1 p.2 r
theorem isPath_any (A : Option Addr) (n c lo hi : Nat) (L : List (Int × Int)) (v : Bool) (hv : v = pathOk L) (w : World) (hr : RdS 2 (FlatR ptC) w lo hi A n L) (hhi : hi ≤ w.heap.size) (hn : n ≤ 1048576) :
    Calls Tryz.prog 57 #[.slice A n c] w fun e w' => e = .returned (.bool v) ∧ Below w.heap.size w w' := by
  have hl := hr.1
  unfold pathOk at hv
  rw [hl] at hv
  clear hl
  by_cases h1 : 1 ≤ n
  rotate_left
  · have hvf : v = false := by rw [hv, inB_false.2 (by omega)]; rfl
    subst hvf
    clear hv hr
    go_enter Tryz.func57, Tryz.ntmps57
    go_wp2_with fail
    go_ret
    exact ⟨rfl, Below.refl _ _⟩
  by_cases h2 : n ≤ 400
  rotate_left
  · have hvf : v = false := by rw [hv, inB_false.2 (by omega)]; rfl
    subst hvf
    clear hv hr
    go_enter Tryz.func57, Tryz.ntmps57
    go_wp2_with fail
    go_ret
    exact ⟨rfl, Below.refl _ _⟩
  have hv' : v = L.all pt2Ok := by rw [hv, inB_iff.2 ⟨by omega, by omega⟩]; simp
  have hc := Lib.hid (validPts_any A n c lo hi L v hv' w hr hhi hn)
  clear hv hv' hr
  go_enter Tryz.func57, Tryz.ntmps57
  go_wp2_with (go_at_call 79; refine hc.out.mono ?_; rintro e w1 ⟨rfl, hb1⟩)
  all_goals
    go_ret
    exact ⟨rfl, hb1⟩
end Go.Proofs.YtgelkdcggnffeaaGreat

